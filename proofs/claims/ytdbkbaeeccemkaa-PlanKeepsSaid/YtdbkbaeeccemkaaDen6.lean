/- A computable reading of the model's code as predicate transformers, and its soundness: the base of all walks of this claim. -/
import Derived.Orders
import Derived.Laws.World
import Derived.Laws.StructEq
import Derived.KernelRfl
namespace Go.D

/-! ## Shapes of values -/

inductive Lf where
  | int (k : IntKind) | bool | str | ptr | slice | map | any
  deriving Inhabited

inductive Comp where
  | leaf (l : Lf)
  | agg (ls : List Lf)
  deriving Inhabited

inductive Sh where
  | comp (c : Comp)
  | tup (cs : List Comp)
  deriving Inhabited

def Lf.ex : Lf → (Value → Prop) → Prop
  | .int k, K => ∃ n : Int, K (.int k n)
  | .bool, K => ∃ b : Bool, K (.bool b)
  | .str, K => ∃ s : ByteArray, K (.string s)
  | .ptr, K => ∃ p : Option Addr, K (.pointer p)
  | .slice, K => ∃ (p : Option Addr) (n c : Nat), K (.slice p n c)
  | .map, K => ∃ r : Option Nat, K (.map r)
  | .any, K => ∃ v : Value, K v

def exLs : List Lf → (List Value → Prop) → Prop
  | [], K => K []
  | l :: ls, K => l.ex fun v => exLs ls fun vs => K (v :: vs)

def Comp.ex : Comp → (Value → Prop) → Prop
  | .leaf l, K => l.ex K
  | .agg ls, K => exLs ls fun vs => K (.agg vs.toArray)

def exCs : List Comp → (List Value → Prop) → Prop
  | [], K => K []
  | c :: cs, K => c.ex fun v => exCs cs fun vs => K (v :: vs)

def Sh.ex : Sh → (Value → Prop) → Prop
  | .comp c, K => c.ex K
  | .tup cs, K => exCs cs fun vs => K (.tuple vs.toArray)

theorem Lf.ex_sound {l : Lf} {K : Value → Prop} (h : l.ex K) : ∃ v, K v := by
  cases l <;> simp only [Lf.ex] at h <;> first
    | exact h
    | (obtain ⟨a, b, c, h⟩ := h; exact ⟨_, h⟩)
    | (obtain ⟨a, h⟩ := h; exact ⟨_, h⟩)

theorem exLs_sound : ∀ {ls : List Lf} {K : List Value → Prop}, exLs ls K → ∃ vs, vs.length = ls.length ∧ K vs
  | [], K, h => ⟨[], rfl, h⟩
  | l :: ls, K, h => by
    obtain ⟨v, h⟩ := Lf.ex_sound h
    obtain ⟨vs, hl, h⟩ := exLs_sound h
    exact ⟨v :: vs, by simp [hl], h⟩

theorem Comp.ex_sound {c : Comp} {K : Value → Prop} (h : c.ex K) : ∃ v, K v := by
  cases c with
  | leaf l => exact Lf.ex_sound h
  | agg ls => obtain ⟨vs, _, h⟩ := exLs_sound h; exact ⟨_, h⟩

theorem exCs_sound : ∀ {cs : List Comp} {K : List Value → Prop}, exCs cs K → ∃ vs, K vs
  | [], K, h => ⟨[], h⟩
  | c :: cs, K, h => by
    obtain ⟨v, h⟩ := Comp.ex_sound h
    obtain ⟨vs, h⟩ := exCs_sound h
    exact ⟨v :: vs, h⟩

theorem Sh.ex_sound {s : Sh} {K : Value → Prop} (h : s.ex K) : ∃ v, K v := by
  cases s with
  | comp c => exact Comp.ex_sound h
  | tup cs => obtain ⟨vs, h⟩ := exCs_sound h; exact ⟨_, h⟩

/-! ## Types' shapes -/
section
variable (P : Program)

def isAggT (t : TypeId) : Bool :=
  match P.underlying t with
  | some (.struct _) => true
  | some (.array _ _) => true
  | _ => false

def leaves : Nat → TypeId → List Lf
  | 0, _ => [.any]
  | d + 1, t =>
    match P.underlying t with
    | some .bool => [.bool]
    | some (.int k) => [.int k]
    | some .string => [.str]
    | some (.pointer _) => [.ptr]
    | some (.slice _) => [.slice]
    | some (.map _ _) => [.map]
    | some (.struct fs) => (fs.toList.map fun f => leaves d f.type).flatten
    | some (.array n e) => (List.replicate n (leaves d e)).flatten
    | _ => [.any]

def compOf (t : TypeId) : Comp :=
  match isAggT P t with
  | true => .agg (leaves P 9 t)
  | false => match leaves P 9 t with
    | [l] => .leaf l
    | _ => .leaf .any

def shOf (t : TypeId) : Sh :=
  match P.underlying t with
  | some (.tuple ts) => .tup (ts.toList.map (compOf P))
  | _ => .comp (compOf P t)
end

/-! ## Combinators of the formulas -/

def onV (o : Option Value) (K : Value → Prop) : Prop :=
  match o with
  | some v => K v
  | none => False

def If (b : Bool) (A B : Prop) : Prop := (b = true → A) ∧ (b = false → B)

theorem If_true {A B : Prop} : If true A B = A := by simp [If]
theorem If_false {A B : Prop} : If false A B = B := by simp [If]

def NN (p : Option Addr) (K : Addr → Prop) : Prop := ∃ a, p = some a ∧ K a

theorem NN_some {a : Addr} {K : Addr → Prop} : NN (some a) K = K a := by simp [NN]

def New (w : World) (o : Obj) (K : Nat → World → Prop) : Prop := K w.heap.size { w with heap := w.heap.push o }

def St (w : World) (a : Addr) (v : Value) (K : World → Prop) : Prop :=
  v.oneCell' = true ∧ (∃ old, w.cell? a = some old) ∧ w.frozen? a = false ∧ K (w.setCell a v)

def StL (w : World) (a : Addr) : List Value → Nat → (World → Prop) → Prop
  | [], _, K => K w
  | v :: vs, i, K => St w (a.add i) v fun w1 => StL w1 a vs (i + 1) K

def Run {α : Type} (P : Program) (s : Sem α) (w : World) (K : α → World → Prop) : Prop :=
  match s.run P w with
  | .ok v w' => K v w'
  | .halt _ _ => False

def Draw (w : World) (K : World → Prop) : Prop := ∀ d, K { w with drawn := d }

def ldCells (w : World) (a : Addr) : List Lf → Nat → (List Value → Prop) → Prop
  | [], _, K => K []
  | l :: ls, i, K => l.ex fun v => w.cell? (a.add i) = some v ∧ ldCells w a ls (i + 1) fun vs => K (v :: vs)

def Ld (P : Program) (w : World) (t : TypeId) (a : Addr) (K : Value → Prop) : Prop :=
  match compOf P t with
  | .leaf l => match P.underlying t with
    | some _ => l.ex fun v => w.cell? a = some v ∧ K v
    | none => False
  | .agg ls => match Nat.beq ls.length (P.cellsOf t) with
    | true => ldCells w a ls 0 fun vs => K (.agg vs.toArray)
    | false => False

/-! ## Environments -/

structure Entry where
  tmp : Nat
  val : Value
  kn : Option Bool

abbrev Env := List Entry

def find : Env → Nat → Option Entry
  | [], _ => none
  | x :: r, t => match Nat.beq x.tmp t with
    | true => some x
    | false => find r t

def getV (e : Env) (t : Nat) : Option Value := match find e t with | some x => some x.val | none => none
def getK (e : Env) (t : Nat) : Option Bool := match find e t with | some x => x.kn | none => none

def ev (e : Env) : Operand → Option Value
  | .tmp t => getV e t
  | .const v => some v
  | .global g => some (.pointer (some ⟨g, 0, none⟩))
  | .func f => some (.func (.func f) #[] #[])

def evK (e : Env) : Operand → Option Bool
  | .tmp t => getK e t
  | .const (.bool b) => some b
  | _ => none

def evs (e : Env) : List Operand → (List Value → Prop) → Prop
  | [], K => K []
  | x :: xs, K => onV (ev e x) fun v => evs e xs fun vs => K (v :: vs)

/-- What an environment knows of the operands. -/
structure Agree (ρ : Operand → Value) (e : Env) : Prop where
  val : ∀ x v, ev e x = some v → ρ x = v
  kn : ∀ x b, evK e x = some b → ρ x = .bool b

theorem evs_sound {ρ : Operand → Value} {e : Env} (h : Agree ρ e) : ∀ {xs : List Operand} {K : List Value → Prop}, evs e xs K → K (xs.map ρ)
  | [], _, hk => hk
  | x :: xs, K, hk => by
    unfold evs onV at hk
    split at hk
    · rename_i v hv
      have := evs_sound h hk
      rw [List.map_cons, h.val _ _ hv]; exact this
    · exact hk.elim

/-! ## Arithmetic -/

def kindEq : IntKind → IntKind → Bool
  | .i8, .i8 | .i16, .i16 | .i32, .i32 | .i64, .i64 | .u8, .u8 | .u16, .u16 | .u32, .u32 | .u64, .u64 => true
  | _, _ => false

theorem kindEq_eq {a b : IntKind} (h : kindEq a b = true) : a = b := by cases a <;> cases b <;> first | rfl | simp [kindEq] at h

def andI (k : IntKind) (a b : Int) : Int := k.wrap (BitVec.ofInt k.bits a &&& BitVec.ofInt k.bits b).toNat
def orI (k : IntKind) (a b : Int) : Int := k.wrap (BitVec.ofInt k.bits a ||| BitVec.ofInt k.bits b).toNat
def xorI (k : IntKind) (a b : Int) : Int := k.wrap (BitVec.ofInt k.bits a ^^^ BitVec.ofInt k.bits b).toNat
def andNotI (k : IntKind) (a b : Int) : Int := k.wrap (BitVec.ofInt k.bits a &&& ~~~BitVec.ofInt k.bits b).toNat
def shlI (k : IntKind) (a b : Int) : Int := k.wrap (a * 2 ^ (min b.toNat k.bits))
def shrI (k : IntKind) (a b : Int) : Int := a.fdiv (2 ^ (min b.toNat k.bits))

/-- Operands of one kind. -/
def same (k k' : IntKind) (A : Prop) : Prop := match kindEq k k' with | true => A | false => False

def leafEq : Value → Value → Option Bool
  | .int k a, .int k' b => match kindEq k k' with | true => some (a == b) | false => none
  | .bool a, .bool b => some (a == b)
  | .string a, .string b => some (a == b)
  | _, _ => none

/-- Two rows of leaves, one by one. -/
def rowEq : List Value → List Value → Option Bool
  | [], [] => some true
  | x :: xs, y :: ys => match leafEq x y, rowEq xs ys with
    | some a, some b => some (a && b)
    | _, _ => none
  | _, _ => none

def binD (P : Program) (op : BinOp) (t : TypeId) (x y : Value) (K : Value → Prop) : Prop :=
  match x, y with
  | .int k a, .int k' b =>
    match op with
    | .add => same k k' (K (.int k (k.wrap (a + b))))
    | .sub => same k k' (K (.int k (k.wrap (a - b))))
    | .mul => same k k' (K (.int k (k.wrap (a * b))))
    | .quo => same k k' (b ≠ 0 ∧ K (.int k (k.wrap (a.tdiv b))))
    | .rem => same k k' (b ≠ 0 ∧ K (.int k (a.tmod b)))
    | .and => same k k' (K (.int k (andI k a b)))
    | .or => same k k' (K (.int k (orI k a b)))
    | .xor => same k k' (K (.int k (xorI k a b)))
    | .andNot => same k k' (K (.int k (andNotI k a b)))
    | .shl => 0 ≤ b ∧ K (.int k (shlI k a b))
    | .shr => 0 ≤ b ∧ K (.int k (shrI k a b))
    | .eql => same k k' (K (.bool (a == b)))
    | .neq => same k k' (K (.bool (a != b)))
    | .lss => same k k' (K (.bool (decide (a < b))))
    | .leq => same k k' (K (.bool (decide (a ≤ b))))
    | .gtr => same k k' (K (.bool (decide (a > b))))
    | .geq => same k k' (K (.bool (decide (a ≥ b))))
  | .string a, .string b =>
    match op with
    | .add => ((a.size + b.size : Nat) : Int) ≤ IntKind.i64.max ∧ K (.string (a ++ b))
    | .eql => K (.bool (a.toList == b.toList))
    | .neq => K (.bool (!(a.toList == b.toList)))
    | .lss => K (.bool (Op.bytesLess a.toList b.toList))
    | .leq => K (.bool (Op.bytesLess a.toList b.toList || a.toList == b.toList))
    | .gtr => K (.bool (!(Op.bytesLess a.toList b.toList || a.toList == b.toList)))
    | .geq => K (.bool (!(Op.bytesLess a.toList b.toList)))
    | _ => False
  | .bool a, .bool b =>
    match P.underlying t with
    | some .bool => match op with
      | .eql => K (.bool (a == b))
      | .neq => K (.bool (!(a == b)))
      | _ => False
    | _ => False
  | .pointer p, .pointer none =>
    match P.underlying t with
    | some (.pointer _) => match op with
      | .eql => K (.bool p.isNone)
      | .neq => K (.bool (!p.isNone))
      | _ => False
    | _ => False
  | .slice p _ _, .slice none _ _ =>
    match P.underlying t with
    | some (.slice _) => match op with
      | .eql => K (.bool p.isNone)
      | .neq => K (.bool (!p.isNone))
      | _ => False
    | _ => False
  | .map r, .map none =>
    match P.underlying t with
    | some (.map _ _) => match op with
      | .eql => K (.bool r.isNone)
      | .neq => K (.bool (!r.isNone))
      | _ => False
    | _ => False
  | .agg _, .agg _ =>
    match P.eqGuardType P.depth t with
    | true => False
    | false => match op with
      | .eql => ∃ b, (∀ w, (Op.equal t x y).run P w = .ok b w) ∧ K (.bool b)
      | .neq => ∃ b, (∀ w, (Op.equal t x y).run P w = .ok b w) ∧ K (.bool (!b))
      | _ => False
  | _, _ => False

/-- A value of an interface's type. -/
def isIf (v : Value) : Prop := v = .nilIface ∨ ∃ (t : TypeId) (u : Value), v = .iface t u

def isNilV : Value → Bool
  | .nilIface => true
  | _ => false

/-- Against the literal nil. -/
def nilD (P : Program) (op : BinOp) (t : TypeId) (v : Value) (K : Value → Prop) : Prop :=
  match P.underlying t with
  | some (.interface _) => isIf v ∧ match op with
    | .eql => K (.bool (isNilV v))
    | .neq => K (.bool (!isNilV v))
    | _ => False
  | _ => False

def unD (op : UnOp) (x : Value) (K : Value → Prop) : Prop :=
  match op, x with
  | .not, .bool b => K (.bool (!b))
  | .neg, .int k n => K (.int k (k.wrap (0 - n)))
  | .xor, .int k n => K (.int k (xorI k (match k.signed with | true => -1 | false => k.max) n))
  | _, _ => False

def convD (P : Program) (src dst : TypeId) (x : Value) (K : Value → Prop) : Prop :=
  match P.underlying src, P.underlying dst, x with
  | some _, some (.int k), .int _ n => K (.int k (k.wrap n))
  | some .string, some .string, .string s => K (.string s)
  | _, _, _ => False

/-- A slice's start, moved on. -/
def adv (p : Option Addr) (c l size : Nat) : Option Addr := if c = l then p else p.map (·.add (l * size))

def advA (a : Addr) (c l size : Nat) : Addr := if c = l then a else a.add (l * size)

def sliceD (P : Program) (t : TypeId) (x : Value) (lo hi : Option Value) (K : Value → Prop) : Prop :=
  match P.underlying t, x with
  | some (.slice el), .slice p n c =>
    match (P.info? el).isSome with
    | true => match lo, hi with
      | none, none => K (.slice p n c)
      | none, some (.int _ h) => 0 ≤ h ∧ h ≤ (c : Int) ∧ K (.slice p h.toNat c)
      | some (.int _ l), none => 0 ≤ l ∧ l ≤ (n : Int) ∧ K (.slice (adv p c l.toNat (P.cellsOf el)) (n - l.toNat) (c - l.toNat))
      | some (.int _ l), some (.int _ h) => 0 ≤ l ∧ l ≤ h ∧ h ≤ (c : Int) ∧ K (.slice (adv p c l.toNat (P.cellsOf el)) (h.toNat - l.toNat) (c - l.toNat))
      | _, _ => False
    | false => False
  | some .string, .string s =>
    match lo, hi with
    | none, none => K (.string (s.extract 0 s.size))
    | none, some (.int _ h) => 0 ≤ h ∧ h ≤ (s.size : Int) ∧ K (.string (s.extract 0 h.toNat))
    | some (.int _ l), none => 0 ≤ l ∧ l ≤ (s.size : Int) ∧ K (.string (s.extract l.toNat s.size))
    | some (.int _ l), some (.int _ h) => 0 ≤ l ∧ l ≤ h ∧ h ≤ (s.size : Int) ∧ K (.string (s.extract l.toNat h.toNat))
    | _, _ => False
  | some (.array n el), .pointer (some a) =>
    match (P.info? el).isSome with
    | true => match lo, hi with
      | none, none => K (.slice (some a) n n)
      | none, some (.int _ h) => 0 ≤ h ∧ h ≤ (n : Int) ∧ K (.slice (some a) h.toNat n)
      | some (.int _ l), none => 0 ≤ l ∧ l ≤ (n : Int) ∧ K (.slice (some (advA a n l.toNat (P.cellsOf el))) (n - l.toNat) (n - l.toNat))
      | some (.int _ l), some (.int _ h) => 0 ≤ l ∧ l ≤ h ∧ h ≤ (n : Int) ∧ K (.slice (some (advA a n l.toNat (P.cellsOf el))) (h.toNat - l.toNat) (n - l.toNat))
      | _, _ => False
    | false => False
  | _, _ => False

/-- A slice, its capacity cut too. -/
def slice3D (P : Program) (t : TypeId) (x : Value) (lo hi : Option Value) (m : Value) (K : Value → Prop) : Prop :=
  match P.underlying t, x with
  | some (.slice el), .slice p _ c =>
    match (P.info? el).isSome with
    | true => match lo, hi, m with
      | none, some (.int _ h), .int _ m => 0 ≤ h ∧ h ≤ m ∧ m ≤ (c : Int) ∧ K (.slice p h.toNat m.toNat)
      | some (.int _ l), some (.int _ h), .int _ m => 0 ≤ l ∧ l ≤ h ∧ h ≤ m ∧ m ≤ (c : Int) ∧ K (.slice (adv p m.toNat l.toNat (P.cellsOf el)) (h.toNat - l.toNat) (m.toNat - l.toNat))
      | _, _, _ => False
    | false => False
  | _, _ => False

def evO (e : Env) (o : Option Operand) (K : Option Value → Prop) : Prop :=
  match o with
  | none => K none
  | some x => onV (ev e x) fun v => K (some v)

def evParts (e : Env) : List (Nat × Operand) → (List (Nat × Value) → Prop) → Prop
  | [], K => K []
  | (i, x) :: xs, K => onV (ev e x) fun v => evParts e xs fun vs => K ((i, v) :: vs)

theorem evParts_sound {ρ : Operand → Value} {e : Env} (h : Agree ρ e) : ∀ {xs : List (Nat × Operand)} {K : List (Nat × Value) → Prop}, evParts e xs K → K (xs.map fun x => (x.1, ρ x.2))
  | [], _, hk => hk
  | (i, x) :: xs, K, hk => by
    unfold evParts onV at hk
    split at hk
    · rename_i v hv
      have := evParts_sound h hk
      rw [List.map_cons, h.val _ _ hv]; exact this
    · exact hk.elim

/-- The cells of a struct or an array value that is built. -/
def fillD (place : Nat → Option (Nat × Nat)) (cells : Array Value) (parts : List (Nat × Value)) (K : Array Value → Prop) : Prop :=
  match Instr.fill place cells parts with
  | some cs => K cs
  | none => False

def zeroCellsD (P : Program) (t : TypeId) (K : Array Value → Prop) : Prop :=
  match P.info? t with
  | some i => match i.zero with
    | some v => K v.cells
    | none => False
  | none => False

/-- The type is one of the program's. -/
def known (P : Program) (t : TypeId) (A : Prop) : Prop := match P.info? t with
  | some _ => A
  | none => False

def buildD (P : Program) (t : TypeId) (parts : List (Nat × Value)) (K : Value → Prop) : Prop :=
  zeroCellsD P t fun zero =>
    match P.underlying t with
    | some (.struct fs) => match fs.all (fun f => (P.info? f.type).isSome) with
      | true => fillD (fun i => (fs[i]?).map fun f => (f.offset, P.cellsOf f.type)) zero parts fun cs => K (.agg cs)
      | false => False
    | some (.array _ el) => known P el (fillD (fun i => some (i * P.cellsOf el, P.cellsOf el)) zero parts fun cs => K (.agg cs))
    | _ => False

def fieldD (P : Program) (t : TypeId) (x : Value) (f : Nat) (K : Value → Prop) : Prop :=
  match P.underlying t, x with
  | some (.struct fs), .agg cs =>
    match fs[f]? with
    | some fd => match P.underlying fd.type with
      | some _ => match isAggT P fd.type with
        | true => K (.agg (cs.extract fd.offset (fd.offset + P.cellsOf fd.type)))
        | false => match cs[fd.offset]? with
          | some v => K v
          | none => False
      | none => False
    | none => False
  | _, _ => False

def fieldAddrD (P : Program) (t : TypeId) (x : Value) (f : Nat) (K : Value → Prop) : Prop :=
  match P.underlying t, x with
  | some (.struct fs), .pointer (some a) =>
    match fs[f]? with
    | some fd => match Nat.beq (P.cellsOf fd.type) 0 with
      | true => False
      | false => K (.pointer (some (a.add fd.offset)))
    | none => False
  | _, _ => False

def indexAddrD (P : Program) (t : TypeId) (x i : Value) (K : Value → Prop) : Prop :=
  match P.underlying t, x, i with
  | some (.slice el), .slice p n _, .int _ j => known P el (0 ≤ j ∧ j < (n : Int) ∧ NN p fun a => K (.pointer (some (a.add (j.toNat * P.cellsOf el)))))
  | some (.array n el), .pointer (some a), .int _ j => known P el (0 ≤ j ∧ j < (n : Int) ∧ K (.pointer (some (a.add (j.toNat * P.cellsOf el)))))
  | _, _, _ => False

def indexD (P : Program) (t : TypeId) (x i : Value) (K : Value → Prop) : Prop :=
  match P.underlying t, x, i with
  | some .string, .string s, .int _ j => 0 ≤ j ∧ ∃ b : UInt8, s[j.toNat]? = some b ∧ K (.int .u8 b.toNat)
  | some (.array n el), .agg cs, .int _ j =>
    match compOf P el with
    | .leaf l => match isAggT P el with
      | false => match P.underlying el with
        | some _ => 0 ≤ j ∧ j < (n : Int) ∧ l.ex fun v => cs[j.toNat * P.cellsOf el]? = some v ∧ K v
        | none => False
      | true => False
    | .agg _ => False
  | _, _, _ => False

def lenD (P : Program) (t : TypeId) (x : Value) (K : Value → Prop) : Prop :=
  match P.underlying t, x with
  | some .string, .string s => K (.int .i64 s.size)
  | some (.slice _), .slice _ n _ => K (.int .i64 n)
  | some (.array n _), _ => K (.int .i64 n)
  | _, _ => False

def minI (x y : Int) : Int := if y < x then y else x
def maxI (x y : Int) : Int := if y > x then y else x

def pickD (c a b : Value) (K : Value → Prop) : Prop :=
  match c, a, b with
  | .bool c, .bool a, .bool b => K (.bool (bif c then a else b))
  | _, _, _ => False

theorem pickD_sound {vc va vb : Value} {K : Value → Prop} (h : pickD vc va vb K) : ∃ c a b : Bool, vc = .bool c ∧ va = .bool a ∧ vb = .bool b ∧ K (.bool (bif c then a else b)) := by
  unfold pickD at h
  split at h
  · exact ⟨_, _, _, rfl, rfl, rfl, h⟩
  · exact h.elim

/-- The operations that yield a value and leave the world alone, and what they hand on. -/
def opV (P : Program) (e : Env) (w : World) (o : Oper) (K : Value → Prop) : Prop :=
  match o.op with
  | .move x => onV (ev e x) K
  | .assign x => onV (ev e x) K
  | .pick c a b =>
    match evK e c with
    | some true => onV (ev e a) K
    | some false => onV (ev e b) K
    | none => onV (ev e c) fun vc => onV (ev e a) fun va => onV (ev e b) fun vb => pickD vc va vb K
  | .nilCheck x => onV (ev e x) fun
    | .pointer p => NN p fun a => K (.pointer (some a))
    | _ => False
  | .fieldAddr t x f => onV (ev e x) fun v => fieldAddrD P t v f K
  | .field t x f => onV (ev e x) fun v => fieldD P t v f K
  | .indexAddr t x i => onV (ev e x) fun v => onV (ev e i) fun j => indexAddrD P t v j K
  | .index t x i => onV (ev e x) fun v => onV (ev e i) fun j => indexD P t v j K
  | .binOp op t x (.const .nilIface) _ => onV (ev e x) fun v => nilD P op t v K
  | .binOp op t x y _ => onV (ev e x) fun v => onV (ev e y) fun u => binD P op t v u K
  | .unOp op _ x => onV (ev e x) fun v => unD op v K
  | .convert src dst x => onV (ev e x) fun v => convD P src dst v K
  | .extract x i => onV (ev e x) fun
    | .tuple vs => match vs[i]? with
      | some v => K v
      | none => False
    | _ => False
  | .makeFunc fn first captured => evs e first.toList fun fs => evs e captured.toList fun cs => K (.func fn fs.toArray cs.toArray)
  | .build t parts => evParts e parts.toList fun ps => buildD P t ps K
  | .slice t x lo hi none => onV (ev e x) fun v => evO e lo fun l => evO e hi fun h => sliceD P t v l h K
  | .slice t x lo hi (some m) => onV (ev e x) fun v => evO e lo fun l => evO e hi fun h => onV (ev e m) fun u => slice3D P t v l h u K
  | .load t x => onV (ev e x) fun
    | .pointer (some a) => Ld P w t a K
    | _ => False
  | .call { callee := .builtin .len, args := as, argTypes := ts } =>
    match as.toList, ts.toList with
    | [x], [t] => onV (ev e x) fun v => lenD P t v K
    | _, _ => False
  | .call { callee := .builtin .cap, args := as, argTypes := ts } =>
    match as.toList, ts.toList with
    | [x], [t] => onV (ev e x) fun v => match P.underlying t, v with
      | some (.slice _), .slice _ _ c => K (.int .i64 c)
      | _, _ => False
    | _, _ => False
  | .call { callee := .builtin .min, args := as, argTypes := _ } =>
    match as.toList with
    | [x, y] => onV (ev e x) fun v => onV (ev e y) fun u => match v, u with
      | .int k a, .int _ b => K (.int k (minI a b))
      | _, _ => False
    | _ => False
  | .call { callee := .builtin .max, args := as, argTypes := _ } =>
    match as.toList with
    | [x, y] => onV (ev e x) fun v => onV (ev e y) fun u => match v, u with
      | .int k a, .int _ b => K (.int k (maxI a b))
      | _, _ => False
    | _ => False
  | _ => False

/-- What an operation has read is still there: it would yield the same. -/
def holdD (P : Program) (e : Env) (o : Oper) (w w' : World) : Prop :=
  match o.op with
  | .load t x => onV (ev e x) fun
    | .pointer (some a) => match compOf P t with
      | .leaf _ => w'.cell? a = w.cell? a
      | .agg ls => ∀ i, i < ls.length → w'.cell? (a.add i) = w.cell? (a.add i)
    | _ => False
  | _ => True

/-! ## Soundness of the value operations -/

/-- A piece of the model that yields this value in whatever world, and leaves it alone. -/
def Gives (P : Program) (s : Sem Value) (v : Value) : Prop := ∀ w, s.run P w = .ok v w

theorem onV_elim {o : Option Value} {K : Value → Prop} (h : onV o K) : ∃ v, o = some v ∧ K v := by
  cases o with
  | none => exact h.elim
  | some v => exact ⟨v, rfl, h⟩

theorem run_underlyingD {P : Program} {t : TypeId} {d : TypeDesc} (h : P.underlying t = some d) (w : World) : (underlying t).run P w = .ok d w := by
  simp [underlying, h]

theorem Addr_add_zero (a : Addr) : a.add 0 = a := by cases a; simp [Addr.add]

theorem cellsOf_info {P : Program} {t : TypeId} {n : Nat} (h : P.cellsOf t = n) (hn : n ≠ 0) : ∃ i, P.info? t = some i ∧ i.size = n := by
  unfold Program.cellsOf at h
  cases hi : P.info? t with
  | none => simp [hi] at h; exact absurd h.symm hn
  | some i => simp [hi] at h; exact ⟨i, rfl, h⟩

theorem underlying_info {P : Program} {t : TypeId} {d : TypeDesc} (h : P.underlying t = some d) : ∃ i, P.info? t = some i := by
  unfold Program.underlying at h
  cases hi : P.info? t with
  | none => simp [hi] at h
  | some i => exact ⟨i, rfl⟩

theorem run_isAgg {P : Program} {t : TypeId} {d : TypeDesc} (h : P.underlying t = some d) (w : World) : (isAgg t).run P w = .ok (isAggT P t) w := by
  unfold isAgg isAggT
  simp only [Sem.run_bind, run_underlyingD h, Result.andThen_ok, h]
  cases d <;> rfl

theorem run_sizeOf {P : Program} {t : TypeId} {i : TypeInfo} (h : P.info? t = some i) (w : World) : (sizeOf t).run P w = .ok (P.cellsOf t) w := by
  simp [sizeOf, typeInfo, h, Program.cellsOf]

theorem equal_succ (t : TypeId) (x y : Value) : Op.equal t x y = Op.equalIn (9999 + 1) t x y := rfl
section
variable {P : Program} {t : TypeId}
theorem equal_bool (ht : P.underlying t = some .bool) (a b : Bool) (w : World) : (Op.equal t (.bool a) (.bool b)).run P w = .ok (a == b) w := by
  rw [equal_succ]; generalize 9999 = d; simp [Op.equalIn, run_underlyingD ht]
theorem equal_ptr {el : TypeId} (ht : P.underlying t = some (.pointer el)) (p : Option Addr) (w : World) : (Op.equal t (.pointer p) (.pointer none)).run P w = .ok p.isNone w := by
  rw [equal_succ]; generalize 9999 = d; cases p <;> simp [Op.equalIn, run_underlyingD ht]
theorem equal_slice {el : TypeId} (ht : P.underlying t = some (.slice el)) (p : Option Addr) (n c n' c' : Nat) (w : World) : (Op.equal t (.slice p n c) (.slice none n' c')).run P w = .ok p.isNone w := by
  rw [equal_succ]; generalize 9999 = d; cases p <;> simp [Op.equalIn, run_underlyingD ht]
theorem equal_map {k el : TypeId} (ht : P.underlying t = some (.map k el)) (r : Option Nat) (w : World) : (Op.equal t (.map r) (.map none)).run P w = .ok r.isNone w := by
  rw [equal_succ]; generalize 9999 = d; cases r <;> simp [Op.equalIn, run_underlyingD ht]
end

theorem binD_sound {P : Program} {op : BinOp} {t : TypeId} {x y : Value} {K : Value → Prop} {xo yo : Operand} (h : binD P op t x y K) :
    ∃ v, K v ∧ Gives P (do eqGuard op t xo yo x y; binOp op t x y) v := by
  unfold binD at h
  split at h
  · rename_i k a k' b
    cases op <;> simp only [same] at h <;> first
      | (split at h
         · rename_i hk
           obtain rfl := kindEq_eq hk
           first
             | exact ⟨_, h, fun w => by simp [eqGuard, binOp, Op.intArith, Op.intBits, Op.intCmp, andI, orI, xorI, andNotI]⟩
             | exact ⟨_, h.2, fun w => by simp [eqGuard, binOp, Op.intDiv, h.1]⟩
         · exact h.elim)
      | (obtain ⟨h1, h2⟩ := h
         have : ¬ b < 0 := by omega
         exact ⟨_, h2, fun w => by simp [eqGuard, binOp, Op.shift, this, shlI, shrI]⟩)
  · rename_i a b
    cases op <;> simp only at h <;> first
      | exact h.elim
      | exact ⟨_, h, fun w => by simp [eqGuard, binOp, Op.stringOp]⟩
      | (obtain ⟨h1, h2⟩ := h
         have : ¬ ((a.size + b.size : Nat) : Int) > IntKind.i64.max := by omega
         exact ⟨_, h2, fun w => by simp only [eqGuard, binOp, Op.stringOp, this, if_false]; simp⟩)
  · rename_i a b
    split at h
    · rename_i ht
      have q := equal_bool ht a b
      cases op <;> simp only at h <;> first
        | exact h.elim
        | exact ⟨_, h, fun w => by simp [eqGuard, binOp, q]⟩
    · exact h.elim
  · rename_i p
    split at h
    · rename_i ht
      have q := equal_ptr ht p
      cases op <;> simp only at h <;> first
        | exact h.elim
        | exact ⟨_, h, fun w => by simp [eqGuard, binOp, q]⟩
    · exact h.elim
  · rename_i p n c n' c'
    split at h
    · rename_i ht
      have q := equal_slice ht p n c n' c'
      cases op <;> simp only at h <;> first
        | exact h.elim
        | exact ⟨_, h, fun w => by simp [eqGuard, binOp, q]⟩
    · exact h.elim
  · rename_i r
    split at h
    · rename_i ht
      have q := equal_map ht r
      cases op <;> simp only at h <;> first
        | exact h.elim
        | exact ⟨_, h, fun w => by simp [eqGuard, binOp, q]⟩
    · exact h.elim
  · split at h
    · exact h.elim
    · rename_i hg
      cases op <;> simp only at h <;> first
        | exact h.elim
        | (obtain ⟨b, h1, h2⟩ := h
           exact ⟨_, h2, fun w => by simp [eqGuard, hg, binOp, h1]⟩)
  · exact h.elim

theorem nilD_sound {P : Program} {op : BinOp} {t : TypeId} {x : Value} {K : Value → Prop} {xo : Operand} (h : nilD P op t x K) :
    ∃ v, K v ∧ Gives P (do eqGuard op t xo (.const .nilIface) x .nilIface; binOp op t x .nilIface) v := by
  unfold nilD at h
  split at h
  · rename_i ms ht
    obtain ⟨hx, h⟩ := h
    have q : ∀ w, (Op.equal t x .nilIface).run P w = .ok (isNilV x) w := fun w => by
      rw [equal_succ]
      generalize 9999 = d
      rcases hx with rfl | ⟨t', u, rfl⟩ <;> simp [Op.equalIn, run_underlyingD ht, isNilV]
    have g : ∀ w, (eqGuard op t xo (.const .nilIface) x .nilIface).run P w = .ok () w := fun w => by
      rcases hx with rfl | ⟨t', u, rfl⟩ <;> cases op <;> simp [eqGuard]
    rcases hx with rfl | ⟨t', u, rfl⟩ <;> cases op <;> simp only at h <;> first
      | exact h.elim
      | exact ⟨_, h, fun w => by simp [g, binOp, q]⟩
  · exact h.elim

theorem unD_sound {P : Program} {op : UnOp} {x : Value} {K : Value → Prop} (h : unD op x K) : ∃ v, K v ∧ Gives P (Op.unary op x) v := by
  unfold unD at h
  split at h
  · exact ⟨_, h, fun w => by simp [Op.unary]⟩
  · exact ⟨_, h, fun w => by simp [Op.unary, Op.intArith]⟩
  · rename_i k n
    refine ⟨_, h, fun w => ?_⟩
    cases hk : k.signed <;> simp [Op.unary, Op.intBits, hk, xorI]
  · exact h.elim

theorem convD_sound {P : Program} {src dst : TypeId} {x : Value} {K : Value → Prop} (h : convD P src dst x K) : ∃ v, K v ∧ Gives P (convert src dst x) v := by
  unfold convD at h
  split at h
  · rename_i h1 h2
    exact ⟨_, h, fun w => by simp [convert, run_underlyingD h1, run_underlyingD h2, Conv.intToInt]⟩
  · rename_i h1 h2
    exact ⟨_, h, fun w => by simp [convert, run_underlyingD h1, run_underlyingD h2]⟩
  · exact h.elim

theorem run_bound {P : Program} {k : IntKind} {i : Int} {y : Nat} {c : BoundsCode} (h0 : 0 ≤ i) (h1 : i ≤ (y : Int)) (w : World) :
    (Instr.sliceBound (.int k i) y c).run P w = .ok i.toNat w := by
  simp [Instr.sliceBound, asIntOf, h0, h1]

theorem adv_zero (p : Option Addr) (c size : Nat) : adv p c 0 size = p := by
  unfold adv; split
  · rfl
  · cases p <;> simp [Addr_add_zero]

theorem run_sizeOf' {P : Program} {el : TypeId} (w : World) (h : (P.info? el).isSome = true) : (sizeOf el).run P w = .ok (P.cellsOf el) w := by
  cases hi : P.info? el with
  | none => simp [hi] at h
  | some i => exact run_sizeOf hi w

theorem slice3D_sound {P : Program} {t : TypeId} {x m : Value} {lo hi : Option Value} {K : Value → Prop}
    (h : slice3D P t x lo hi m K) : ∃ v, K v ∧ Gives P (Instr.sliceAt t x lo hi (some m)) v := by
  unfold slice3D at h
  split at h
  · rename_i el p n c ht
    split at h
    · rename_i hsome
      cases hse : (P.info? el).isSome with
      | false => simp [hse] at hsome
      | true =>
      split at h
      · rename_i k hh k' m
        obtain ⟨h1, h2, h3, h4⟩ := h
        refine ⟨_, h4, fun w => ?_⟩
        have := adv_zero p m.toNat (P.cellsOf el)
        unfold adv at this
        have h5 : hh ≤ ((m.toNat : Nat) : Int) := by omega
        simp only [Instr.sliceAt, Instr.slice, Sem.run_bind, run_underlyingD ht, Result.andThen_ok, Instr.sliceBounds, Sem.run_pure, run_sizeOf' w hse, run_bound (show 0 ≤ m by omega) h3, run_bound h1 h5]
        rw [this]; simp
      · rename_i k l k' hh k'' m
        obtain ⟨h1, h2, h3, h4, h5⟩ := h
        refine ⟨_, h5, fun w => ?_⟩
        have h6 : hh ≤ ((m.toNat : Nat) : Int) := by omega
        have h7 : l ≤ ((hh.toNat : Nat) : Int) := by omega
        simp only [Instr.sliceAt, Instr.slice, Sem.run_bind, run_underlyingD ht, Result.andThen_ok, Instr.sliceBounds, Sem.run_pure, run_sizeOf' w hse, run_bound (show 0 ≤ m by omega) h4, run_bound (show 0 ≤ hh by omega) h6, run_bound h1 h7]
        rfl
      · exact h.elim
    · exact h.elim
  · exact h.elim

theorem sliceD_sound {P : Program} {t : TypeId} {x : Value} {lo hi : Option Value} {K : Value → Prop}
    (h : sliceD P t x lo hi K) : ∃ v, K v ∧ Gives P (Instr.sliceAt t x lo hi none) v := by
  unfold sliceD at h
  split at h
  · rename_i el p n c ht
    split at h
    · rename_i hsome
      cases hse : (P.info? el).isSome with
      | false => simp [hse] at hsome
      | true =>
      split at h
      · refine ⟨_, h, fun w => ?_⟩
        have := adv_zero p c (P.cellsOf el)
        unfold adv at this
        simp only [Instr.sliceAt, Instr.slice, Sem.run_bind, run_underlyingD ht, Result.andThen_ok, Instr.sliceBounds, Sem.run_pure, run_sizeOf' w hse]
        rw [this]; simp
      · rename_i k hh
        obtain ⟨h1, h2, h3⟩ := h
        refine ⟨_, h3, fun w => ?_⟩
        have := adv_zero p c (P.cellsOf el)
        unfold adv at this
        simp only [Instr.sliceAt, Instr.slice, Sem.run_bind, run_underlyingD ht, Result.andThen_ok, Instr.sliceBounds, Sem.run_pure, run_sizeOf' w hse, run_bound h1 h2]
        rw [this]; simp
      · rename_i k l
        obtain ⟨h1, h2, h3⟩ := h
        refine ⟨_, h3, fun w => ?_⟩
        simp only [Instr.sliceAt, Instr.slice, Sem.run_bind, run_underlyingD ht, Result.andThen_ok, Instr.sliceBounds, Sem.run_pure, run_sizeOf' w hse, run_bound h1 h2]
        rfl
      · rename_i k l k' hh
        obtain ⟨h1, h2, h3, h4⟩ := h
        refine ⟨_, h4, fun w => ?_⟩
        have h5 : l ≤ ((hh.toNat : Nat) : Int) := by omega
        simp only [Instr.sliceAt, Instr.slice, Sem.run_bind, run_underlyingD ht, Result.andThen_ok, Instr.sliceBounds, Sem.run_pure, run_sizeOf' w hse, run_bound (show 0 ≤ hh by omega) h3, run_bound h1 h5]
        rfl
      · exact h.elim
    · exact h.elim
  · rename_i s ht
    split at h
    · exact ⟨_, h, fun w => by simp [Instr.sliceAt, Instr.slice, run_underlyingD ht, Instr.sliceBounds]⟩
    · rename_i k hh
      obtain ⟨h1, h2, h3⟩ := h
      refine ⟨_, h3, fun w => ?_⟩
      simp [Instr.sliceAt, Instr.slice, run_underlyingD ht, Instr.sliceBounds, run_bound h1 h2]
    · rename_i k l
      obtain ⟨h1, h2, h3⟩ := h
      refine ⟨_, h3, fun w => ?_⟩
      simp [Instr.sliceAt, Instr.slice, run_underlyingD ht, Instr.sliceBounds, run_bound h1 h2]
    · rename_i k l k' hh
      obtain ⟨h1, h2, h3, h4⟩ := h
      refine ⟨_, h4, fun w => ?_⟩
      have h5 : l ≤ ((hh.toNat : Nat) : Int) := by omega
      simp [Instr.sliceAt, Instr.slice, run_underlyingD ht, Instr.sliceBounds, run_bound (show 0 ≤ hh by omega) h3, run_bound h1 h5]
    · exact h.elim
  · rename_i n el a ht
    split at h
    · rename_i hsome
      cases hse : (P.info? el).isSome with
      | false => simp [hse] at hsome
      | true =>
      have hz : (if n = 0 then a else a.add (0 * P.cellsOf el)) = a := by
        split
        · rfl
        · simp [Addr_add_zero]
      split at h
      · refine ⟨_, h, fun w => ?_⟩
        simp only [Instr.sliceAt, Instr.sureAddr, Sem.run_bind, run_underlyingD ht, Result.andThen_ok, Instr.sliceBounds, Sem.run_pure, run_sizeOf' w hse]
        rw [hz]; simp
      · rename_i k hh
        obtain ⟨h1, h2, h3⟩ := h
        refine ⟨_, h3, fun w => ?_⟩
        simp only [Instr.sliceAt, Instr.sureAddr, Sem.run_bind, run_underlyingD ht, Result.andThen_ok, Instr.sliceBounds, Sem.run_pure, run_sizeOf' w hse, run_bound h1 h2]
        rw [hz]; simp
      · rename_i k l
        obtain ⟨h1, h2, h3⟩ := h
        refine ⟨_, h3, fun w => ?_⟩
        simp only [Instr.sliceAt, Instr.sureAddr, Sem.run_bind, run_underlyingD ht, Result.andThen_ok, Instr.sliceBounds, Sem.run_pure, run_sizeOf' w hse, run_bound h1 h2]
        rfl
      · rename_i k l k' hh
        obtain ⟨h1, h2, h3, h4⟩ := h
        refine ⟨_, h4, fun w => ?_⟩
        have h5 : l ≤ ((hh.toNat : Nat) : Int) := by omega
        simp only [Instr.sliceAt, Instr.sureAddr, Sem.run_bind, run_underlyingD ht, Result.andThen_ok, Instr.sliceBounds, Sem.run_pure, run_sizeOf' w hse, run_bound (show 0 ≤ hh by omega) h3, run_bound h1 h5]
        rfl
      · exact h.elim
    · exact h.elim
  · exact h.elim

theorem fieldAddrD_sound {P : Program} {t : TypeId} {x : Value} {f : Nat} {K : Value → Prop} (h : fieldAddrD P t x f K) :
    ∃ v, K v ∧ Gives P (Instr.fieldAt t x f) v := by
  unfold fieldAddrD at h
  split at h
  · rename_i fs a ht
    split at h
    · rename_i fd hf
      split at h
      · exact h.elim
      · rename_i hn
        have hn : P.cellsOf fd.type ≠ 0 := by intro e; simp [e] at hn
        obtain ⟨i, hi, hs⟩ := cellsOf_info rfl hn
        refine ⟨_, h, fun w => ?_⟩
        simp [Instr.fieldAt, run_underlyingD ht, hf, Instr.sureAddr, fieldPlace, run_sizeOf hi, hn]
    · exact h.elim
  · exact h.elim

theorem run_part {P : Program} {t : TypeId} {d : TypeDesc} {i : TypeInfo} (hu : P.underlying t = some d) (hi : P.info? t = some i) (cs : Array Value) (off : Nat) (w : World) :
    (part t cs off).run P w = if isAggT P t then .ok (.agg (cs.extract off (off + P.cellsOf t))) w else match cs[off]? with
      | some v => .ok v w
      | none => .halt (.stuck "part: no such cell") w := by
  simp only [part, Sem.run_bind, run_isAgg hu, Result.andThen_ok]
  cases isAggT P t with
  | true => simp [run_sizeOf hi]
  | false => simp; cases cs[off]? <;> simp

theorem fieldD_sound {P : Program} {t : TypeId} {x : Value} {f : Nat} {K : Value → Prop} (h : fieldD P t x f K) :
    ∃ v, K v ∧ Gives P (Instr.field t x f) v := by
  unfold fieldD at h
  split at h
  · rename_i fs cs ht
    split at h
    · rename_i fd hf
      split at h
      · rename_i d hu
        obtain ⟨i, hi⟩ := underlying_info hu
        split at h
        · rename_i ha
          refine ⟨_, h, fun w => ?_⟩
          simp [Instr.field, run_underlyingD ht, hf, asAgg, run_part hu hi, ha]
        · rename_i ha
          split at h
          · rename_i v hv
            refine ⟨_, h, fun w => ?_⟩
            simp [Instr.field, run_underlyingD ht, hf, asAgg, run_part hu hi, ha, hv]
          · exact h.elim
      · exact h.elim
    · exact h.elim
  · exact h.elim

theorem known_elim {P : Program} {t : TypeId} {A : Prop} (h : known P t A) : (P.info? t).isSome = true ∧ A := by
  unfold known at h
  split at h
  · rename_i hi; exact ⟨by simp [hi], h⟩
  · exact h.elim

theorem indexAddrD_sound {P : Program} {t : TypeId} {x i : Value} {K : Value → Prop} (h : indexAddrD P t x i K) :
    ∃ v, K v ∧ Gives P (Instr.indexAt t x i) v := by
  unfold indexAddrD at h
  split at h
  · rename_i el p n c k j ht
    obtain ⟨hs, h0, h1, a, rfl, hk⟩ := known_elim h
    refine ⟨_, hk, fun w => ?_⟩
    simp [Instr.indexAt, asIntOf, run_underlyingD ht, h0, h1, run_sizeOf' w hs]
  · rename_i n el a k j ht
    obtain ⟨hs, h0, h1, hk⟩ := known_elim h
    refine ⟨_, hk, fun w => ?_⟩
    simp [Instr.indexAt, asIntOf, run_underlyingD ht, h0, h1, run_sizeOf' w hs, Instr.sureAddr]
  · exact h.elim

theorem lenD_sound {P : Program} {t : TypeId} {x : Value} {ty : TypeId} {K : Value → Prop} (h : lenD P t x K) :
    ∃ v, K v ∧ Gives P (Builtin.len_ #[t] ty #[x]) v := by
  unfold lenD at h
  split at h
  · rename_i ht; exact ⟨_, h, fun w => by simp [Builtin.len_, run_underlyingD ht, goInt]⟩
  · rename_i ht; exact ⟨_, h, fun w => by simp [Builtin.len_, run_underlyingD ht, goInt]⟩
  · rename_i ht; exact ⟨_, h, fun w => by simp [Builtin.len_, run_underlyingD ht, goInt]⟩
  · exact h.elim

theorem ldCells_sound {P : Program} {w : World} {a : Addr} : ∀ {ls : List Lf} {i : Nat} {K : List Value → Prop}, ldCells w a ls i K →
    ∃ vs, K vs ∧ vs.length = ls.length ∧ ∀ j (h : j < vs.length), w.cell? (a.add (i + j)) = some vs[j]
  | [], i, K, h => ⟨[], h, rfl, fun j hj => absurd hj (by simp)⟩
  | l :: ls, i, K, h => by
    obtain ⟨v, hv, h⟩ := Lf.ex_sound h
    obtain ⟨vs, hk, hl, hc⟩ := ldCells_sound (P := P) h
    refine ⟨v :: vs, hk, by simp [hl], fun j hj => ?_⟩
    cases j with
    | zero => simpa using hv
    | succ j => have := hc j (by simpa using hj); simpa [Nat.add_assoc, Nat.add_comm 1 j] using this

theorem run_loadCellsFrom {P : Program} {w : World} {a : Addr} : ∀ (n i : Nat) (acc : Array Value) (vs : List Value), vs.length = n →
    (∀ j (h : j < vs.length), w.cell? (a.add (i + j)) = some vs[j]) → (loadCellsFrom a i n acc).run P w = .ok (acc ++ vs.toArray) w
  | 0, i, acc, vs, hl, _ => by
    obtain rfl : vs = [] := List.length_eq_zero_iff.1 hl
    simp [loadCellsFrom]
  | n + 1, i, acc, vs, hl, hc => by
    match vs, hl with
    | v :: vs, hl =>
      have h0 := hc 0 (by simp)
      simp only [Nat.add_zero, List.getElem_cons_zero] at h0
      have ih := run_loadCellsFrom (P := P) (w := w) (a := a) n (i + 1) (acc.push v) vs (by simpa using hl) (fun j hj => by
        have := hc (j + 1) (by simpa using hj)
        simpa [Nat.add_assoc, Nat.add_comm 1 j] using this)
      simp only [loadCellsFrom, Sem.run_bind, run_load, h0, Result.andThen_ok, ih]
      congr 1
      apply Array.ext'
      simp

theorem compOf_agg {P : Program} {t : TypeId} {ls : List Lf} (h : compOf P t = .agg ls) : isAggT P t = true := by
  unfold compOf at h
  cases ha : isAggT P t with
  | true => rfl
  | false => rw [ha] at h; simp only at h; split at h <;> cases h

theorem compOf_leaf {P : Program} {t : TypeId} {l : Lf} (h : compOf P t = .leaf l) : isAggT P t = false := by
  unfold compOf at h
  cases ha : isAggT P t with
  | true => rw [ha] at h; simp at h
  | false => rfl

theorem underlying_of_agg {P : Program} {t : TypeId} (h : isAggT P t = true) : ∃ d, P.underlying t = some d := by
  unfold isAggT at h
  cases hu : P.underlying t with
  | none => simp [hu] at h
  | some d => exact ⟨d, rfl⟩

theorem Ld_sound {P : Program} {w : World} {t : TypeId} {a : Addr} {K : Value → Prop} (h : Ld P w t a K) :
    ∃ v, K v ∧ ∀ w', (match compOf P t with
      | .leaf _ => w'.cell? a = w.cell? a
      | .agg ls => ∀ i, i < ls.length → w'.cell? (a.add i) = w.cell? (a.add i)) → (loadVar t a).run P w' = .ok v w' := by
  unfold Ld at h
  split at h
  · rename_i l hl
    split at h
    · rename_i d hu
      obtain ⟨v, hv, hk⟩ := Lf.ex_sound h
      refine ⟨v, hk, fun w' hw => ?_⟩
      simp [loadVar, run_isAgg hu, compOf_leaf hl, hw, hv]
    · exact h.elim
  · rename_i ls hl
    split at h
    · rename_i hn
      obtain ⟨vs, hk, hlen, hc⟩ := ldCells_sound (P := P) h
      have hn := Nat.eq_of_beq_eq_true hn
      have hag := compOf_agg hl
      obtain ⟨d, hu⟩ := underlying_of_agg hag
      obtain ⟨i, hi⟩ := underlying_info hu
      refine ⟨_, hk, fun w' hw => ?_⟩
      have := run_loadCellsFrom (P := P) (w := w') (a := a) (P.cellsOf t) 0 #[] vs (by omega) (fun j hj => by
        rw [Nat.zero_add, hw j (by omega)]; simpa using hc j hj)
      simp [loadVar, run_isAgg hu, hag, run_sizeOf hi, loadCells, this]
    · exact h.elim

theorem run_zero {P : Program} {t : TypeId} {K : Array Value → Prop} (h : zeroCellsD P t K) : ∃ v, K v.cells ∧ ∀ w, (zeroValue t).run P w = .ok v w := by
  unfold zeroCellsD at h
  split at h
  · rename_i i hi
    split at h
    · rename_i v hz
      exact ⟨v, h, fun w => by simp [zeroValue, typeInfo, hi, hz]⟩
    · exact h.elim
  · exact h.elim

theorem fillD_sound {place : Nat → Option (Nat × Nat)} {cells : Array Value} {parts : List (Nat × Value)} {K : Array Value → Prop} (h : fillD place cells parts K) :
    ∃ cs, Instr.fill place cells parts = some cs ∧ K cs := by
  unfold fillD at h
  split at h
  · rename_i cs hc; exact ⟨cs, hc, h⟩
  · exact h.elim

theorem run_placesL {P : Program} (w : World) : ∀ (fs : List Field), (∀ f ∈ fs, (P.info? f.type).isSome = true) →
    (fs.mapM fun f => (do pure (f.offset, ← sizeOf f.type) : Sem (Nat × Nat))).run P w = .ok (fs.map fun f => (f.offset, P.cellsOf f.type)) w
  | [], _ => rfl
  | f :: fs, h => by
    have h1 := h f (by simp)
    have ih := run_placesL w fs (fun g hg => h g (by simp [hg]))
    simp only [List.mapM_cons, Sem.run_bind, run_sizeOf' w h1, Result.andThen_ok, Sem.run_pure, List.map_cons]
    rw [ih]
    rfl

theorem run_places {P : Program} {fs : Array Field} (h : fs.all (fun f => (P.info? f.type).isSome) = true) (w : World) :
    (fs.mapM fun f => (do pure (f.offset, ← sizeOf f.type) : Sem (Nat × Nat))).run P w = .ok (fs.map fun f => (f.offset, P.cellsOf f.type)) w := by
  obtain ⟨fs⟩ := fs
  have q := run_placesL (P := P) w fs (by simpa using h)
  simp only [List.mapM_toArray, List.map_toArray]
  simp only [Functor.map, Sem.run_bind', q, Result.andThen_ok]
  rfl

theorem buildD_sound {P : Program} {t : TypeId} {parts : List (Nat × Value)} {K : Value → Prop} (h : buildD P t parts K) :
    ∃ v, K v ∧ Gives P (Instr.build t parts.toArray) v := by
  unfold buildD at h
  obtain ⟨z, h, hz⟩ := run_zero h
  split at h
  · rename_i fs ht
    split at h
    · rename_i hall
      obtain ⟨cs, hf, hk⟩ := fillD_sound h
      refine ⟨_, hk, fun w => ?_⟩
      have e : (fun i : Nat => (fs[i]?).map fun f : Field => (f.offset, P.cellsOf f.type)) = fun i : Nat => (fs.map fun f : Field => (f.offset, P.cellsOf f.type))[i]? := by
        funext i; simp
      rw [e] at hf
      have hp := run_places hall w
      simp only [Instr.build, Sem.run_bind, hz, Result.andThen_ok, run_underlyingD ht, hp, hf]
      rfl
    · exact h.elim
  · rename_i n el ht
    obtain ⟨hs, h⟩ := known_elim h
    obtain ⟨cs, hf, hk⟩ := fillD_sound h
    refine ⟨_, hk, fun w => ?_⟩
    simp only [Instr.build, Sem.run_bind, hz, Result.andThen_ok, run_underlyingD ht, run_sizeOf' w hs, hf]
    rfl
  · exact h.elim

theorem indexD_sound {P : Program} {t : TypeId} {x i : Value} {K : Value → Prop} (h : indexD P t x i K) :
    ∃ v, K v ∧ Gives P (Instr.index t x i) v := by
  unfold indexD at h
  split at h
  · rename_i s k j ht
    obtain ⟨h0, b, hb, hk⟩ := h
    refine ⟨_, hk, fun w => ?_⟩
    simp [Instr.index, asIntOf, run_underlyingD ht, h0, hb]
  · rename_i n el cs k j ht
    split at h
    · rename_i l hl
      split at h
      · rename_i ha
        split at h
        · rename_i d hu
          obtain ⟨h0, h1, h⟩ := h
          obtain ⟨v, hv, hk⟩ := Lf.ex_sound h
          obtain ⟨i, hi⟩ := underlying_info hu
          refine ⟨_, hk, fun w => ?_⟩
          simp [Instr.index, asIntOf, run_underlyingD ht, h0, h1, run_sizeOf hi, run_part hu hi, ha, hv]
        · exact h.elim
      · exact h.elim
    · exact h.elim
  · exact h.elim

theorem opV_sound {P : Program} {e : Env} {ρ : Operand → Value} {w : World} {o : Oper} {K : Value → Prop} (hρ : Agree ρ e) (h : opV P e w o K) :
    ∃ v, K v ∧ ∀ w', holdD P e o w w' → (execOp ρ o).run P w' = .ok (.value v) w' := by
  obtain ⟨dst, op, ty, pos, after, guard⟩ := o
  have lift : ∀ {s : Sem Value} {v : Value}, Gives P s v → ∀ w', ((do pure (Next.value (← s)) : Sem Next)).run P w' = .ok (.value v) w' := by
    intro s v hg w'
    simp [hg w']
  unfold opV at h
  dsimp only at h
  split at h
  · rename_i x
    obtain ⟨v, hv, h⟩ := onV_elim h
    exact ⟨v, h, fun w' _ => by simp [execOp, hρ.val _ _ hv]⟩
  · rename_i x
    obtain ⟨v, hv, h⟩ := onV_elim h
    exact ⟨v, h, fun w' _ => by simp [execOp, hρ.val _ _ hv]⟩
  · rename_i c a b
    split at h
    · rename_i hk
      obtain ⟨v, hv, h⟩ := onV_elim h
      exact ⟨v, h, fun w' _ => by simp [execOp, hρ.val _ _ hv, hρ.kn _ _ hk, asBool]⟩
    · rename_i hk
      obtain ⟨v, hv, h⟩ := onV_elim h
      exact ⟨v, h, fun w' _ => by simp [execOp, hρ.val _ _ hv, hρ.kn _ _ hk, asBool]⟩
    · obtain ⟨vc, hc, h⟩ := onV_elim h
      obtain ⟨va, ha, h⟩ := onV_elim h
      obtain ⟨vb, hb, h⟩ := onV_elim h
      obtain ⟨c, a, b, rfl, rfl, rfl, h⟩ := pickD_sound h
      exact ⟨_, h, fun w' _ => by simp only [execOp, hρ.val _ _ hc, hρ.val _ _ ha, hρ.val _ _ hb, asBool]; cases c <;> simp⟩
  · rename_i x
    obtain ⟨v, hv, h⟩ := onV_elim h
    split at h
    · obtain ⟨a, rfl, h⟩ := h
      exact ⟨_, h, fun w' _ => by simp [execOp, hρ.val _ _ hv]⟩
    · exact h.elim
  · obtain ⟨v, hv, h⟩ := onV_elim h
    obtain ⟨u, hk, hg⟩ := fieldAddrD_sound h
    exact ⟨u, hk, fun w' _ => by simp only [execOp, hρ.val _ _ hv]; exact lift hg w'⟩
  · obtain ⟨v, hv, h⟩ := onV_elim h
    obtain ⟨u, hk, hg⟩ := fieldD_sound h
    exact ⟨u, hk, fun w' _ => by simp only [execOp, hρ.val _ _ hv]; exact lift hg w'⟩
  · obtain ⟨v, hv, h⟩ := onV_elim h
    obtain ⟨j, hj, h⟩ := onV_elim h
    obtain ⟨u, hk, hg⟩ := indexAddrD_sound h
    exact ⟨u, hk, fun w' _ => by simp only [execOp, hρ.val _ _ hv, hρ.val _ _ hj]; exact lift hg w'⟩
  · obtain ⟨v, hv, h⟩ := onV_elim h
    obtain ⟨j, hj, h⟩ := onV_elim h
    obtain ⟨u, hk, hg⟩ := indexD_sound h
    exact ⟨u, hk, fun w' _ => by simp only [execOp, hρ.val _ _ hv, hρ.val _ _ hj]; exact lift hg w'⟩
  · rename_i op t x yt
    obtain ⟨v, hv, h⟩ := onV_elim h
    obtain ⟨u, hk, hg⟩ := nilD_sound (xo := x) h
    have hn : ρ (.const .nilIface) = .nilIface := hρ.val _ _ rfl
    exact ⟨u, hk, fun w' _ => by simp only [execOp, hρ.val _ _ hv, hn]; exact lift hg w'⟩
  · rename_i op t x y yt _
    obtain ⟨v, hv, h⟩ := onV_elim h
    obtain ⟨j, hj, h⟩ := onV_elim h
    obtain ⟨u, hk, hg⟩ := binD_sound (xo := x) (yo := y) h
    exact ⟨u, hk, fun w' _ => by simp only [execOp, hρ.val _ _ hv, hρ.val _ _ hj]; exact lift hg w'⟩
  · obtain ⟨v, hv, h⟩ := onV_elim h
    obtain ⟨u, hk, hg⟩ := unD_sound (P := P) h
    exact ⟨u, hk, fun w' _ => by simp only [execOp, hρ.val _ _ hv]; exact lift hg w'⟩
  · obtain ⟨v, hv, h⟩ := onV_elim h
    obtain ⟨u, hk, hg⟩ := convD_sound h
    exact ⟨u, hk, fun w' _ => by simp only [execOp, hρ.val _ _ hv]; exact lift hg w'⟩
  · rename_i x i
    obtain ⟨v, hv, h⟩ := onV_elim h
    split at h
    · rename_i vs
      split at h
      · rename_i u hu
        exact ⟨u, h, fun w' _ => by simp only [execOp, hρ.val _ _ hv]; exact lift (fun w => by simp [Instr.extract, hu]) w'⟩
      · exact h.elim
    · exact h.elim
  · rename_i fn first captured
    have h := evs_sound hρ (evs_sound hρ h)
    refine ⟨_, h, fun w' _ => ?_⟩
    simp only [execOp]
    refine lift (fun w => ?_) w'
    simp [Instr.makeFunc]
    constructor <;> apply Array.ext' <;> simp
  · rename_i t parts
    have h := evParts_sound hρ h
    obtain ⟨u, hk, hg⟩ := buildD_sound h
    refine ⟨u, hk, fun w' _ => ?_⟩
    simp only [execOp]
    refine lift (fun w => ?_) w'
    have := hg w
    rw [← this]
    congr 2
    apply Array.ext'; simp
  · rename_i t x lo hi
    obtain ⟨v, hv, h⟩ := onV_elim h
    have : ∀ {o : Option Operand} {K : Option Value → Prop}, evO e o K → K (o.map ρ) := by
      intro o K h
      cases o with
      | none => exact h
      | some x => obtain ⟨v, hv, h⟩ := onV_elim h; simpa [hρ.val _ _ hv] using h
    obtain ⟨u, hk, hg⟩ := sliceD_sound (this (this h))
    exact ⟨u, hk, fun w' _ => by simp only [execOp, hρ.val _ _ hv, Option.map_none]; exact lift hg w'⟩
  · rename_i t x lo hi m
    obtain ⟨v, hv, h⟩ := onV_elim h
    have : ∀ {o : Option Operand} {K : Option Value → Prop}, evO e o K → K (o.map ρ) := by
      intro o K h
      cases o with
      | none => exact h
      | some x => obtain ⟨v, hv, h⟩ := onV_elim h; simpa [hρ.val _ _ hv] using h
    obtain ⟨mv, hm, h⟩ := onV_elim (this (this h))
    obtain ⟨u, hk, hg⟩ := slice3D_sound h
    exact ⟨u, hk, fun w' _ => by simp only [execOp, hρ.val _ _ hv, hρ.val _ _ hm, Option.map_some]; exact lift hg w'⟩
  · rename_i t x
    obtain ⟨v, hv, h⟩ := onV_elim h
    split at h
    · rename_i a
      obtain ⟨u, hk, hg⟩ := Ld_sound h
      refine ⟨u, hk, fun w' hw => ?_⟩
      simp only [execOp, hρ.val _ _ hv]
      simp only [holdD, hv, onV] at hw
      have := hg w' hw
      simp [Instr.loadAt, Instr.sureAddr, this]
    · exact h.elim
  · rename_i as ts
    split at h
    · rename_i x t hx ht
      obtain ⟨v, hv, h⟩ := onV_elim h
      obtain ⟨u, hk, hg⟩ := lenD_sound (ty := ty) h
      obtain rfl : as = #[x] := Array.ext' (by simpa using hx)
      obtain rfl : ts = #[t] := Array.ext' (by simpa using ht)
      refine ⟨u, hk, fun w' _ => ?_⟩
      simp [execOp, resolve, invoke, builtin, hρ.val _ _ hv, hg w']
    · exact h.elim
  · rename_i as ts
    split at h
    · rename_i x t hx ht
      obtain ⟨v, hv, h⟩ := onV_elim h
      obtain rfl : as = #[x] := Array.ext' (by simpa using hx)
      obtain rfl : ts = #[t] := Array.ext' (by simpa using ht)
      split at h
      · rename_i hu
        exact ⟨_, h, fun w' _ => by simp [execOp, resolve, invoke, builtin, hρ.val _ _ hv, Builtin.cap_, run_underlyingD hu, goInt]⟩
      · exact h.elim
    · exact h.elim
  · rename_i as ts
    split at h
    · rename_i x y hx
      obtain ⟨v, hv, h⟩ := onV_elim h
      obtain ⟨u, hu, h⟩ := onV_elim h
      obtain rfl : as = #[x, y] := Array.ext' (by simpa using hx)
      split at h
      · exact ⟨_, h, fun w' _ => by simp [execOp, resolve, invoke, builtin, hρ.val _ _ hv, hρ.val _ _ hu, Builtin.min_, Builtin.min2, minI]⟩
      · exact h.elim
    · exact h.elim
  · rename_i as ts
    split at h
    · rename_i x y hx
      obtain ⟨v, hv, h⟩ := onV_elim h
      obtain ⟨u, hu, h⟩ := onV_elim h
      obtain rfl : as = #[x, y] := Array.ext' (by simpa using hx)
      split at h
      · exact ⟨_, h, fun w' _ => by simp [execOp, resolve, invoke, builtin, hρ.val _ _ hv, hρ.val _ _ hu, Builtin.max_, Builtin.max2, maxI]⟩
      · exact h.elim
    · exact h.elim
  · exact h.elim

end Go.D

/- The operations that change the world, regions, code: the reading, and its soundness. -/
namespace Go.D

/-! ## What an operation gives, as a relation on its operands' values -/

def Gets (P : Program) (r : Result Next) (R : Value → World → Prop) : Prop :=
  match r with
  | .ok (.value v) w1 => R v w1
  | .ok .skip w1 => R undef w1
  | .ok (.enter f args) w1 => Calls P f args w1 fun e w2 => ∃ v, e = .returned v ∧ R v w2
  | _ => False

theorem Gets.mono {P : Program} {r : Result Next} {R R' : Value → World → Prop} (h : Gets P r R) (hr : ∀ v w, R v w → R' v w) : Gets P r R' := by
  unfold Gets at *
  split at h
  · exact hr _ _ h
  · exact hr _ _ h
  · exact h.mono fun e w2 ⟨v, he, hv⟩ => ⟨v, he, hr _ _ hv⟩
  · exact h.elim

theorem Gets.wp {P : Program} {o : Oper} {a : Act} {w : World} {R : Value → World → Prop} {next : Act → World → Prop} {Q : Exit → Act → World → Prop}
    (h : Gets P ((execOp a.eval o).run P w) R) (hr : ∀ v w1, R v w1 → next (a.put o.dst v) w1) : o.wp P a w next Q := by
  unfold Oper.wp
  generalize (execOp a.eval o).run P w = r at h
  unfold Gets at h
  split at h
  · exact hr _ _ h
  · exact hr _ _ h
  · exact Calls.mono h fun e w2 ⟨v, he, hv⟩ => by subst he; exact hr _ _ hv
  · exact h.elim

/-- Every function with a body may be entered. -/
def AllCallable (P : Program) : Prop := ∀ (f : FuncId) (fn : Func), P.funcs[f]? = some fn → fn.body.isSome = true → (fn.name == "runtime.NumGoroutine") = false

def callableB (P : Program) : Bool := P.funcs.all fun fn => fn.body.isNone || !(fn.name == "runtime.NumGoroutine")

theorem allCallable_of {P : Program} (h : callableB P = true) : AllCallable P := by
  intro f fn hf hb
  have := Array.all_eq_true_iff_forall_mem.1 h fn (Array.mem_of_getElem? hf)
  cases hn : fn.name == "runtime.NumGoroutine" with
  | false => rfl
  | true =>
    simp [hn] at this
    simp [this] at hb

/-- A function is called; what it hands back has this shape. -/
def CallF (P : Program) (f : FuncId) (args : List Value) (w : World) (s : Sh) (K : Value → World → Prop) : Prop :=
  Calls P f args.toArray w fun e w2 => s.ex fun v => e = .returned v ∧ K v w2

def hasBody (P : Program) (f : FuncId) : Bool := match P.funcs[f]? with
  | some fn => fn.body.isSome
  | none => false

/-- A function value is called. -/
def CallV (P : Program) (v : Value) (args : List Value) (w : World) (K : Value → World → Prop) : Prop :=
  ∃ f first caps, v = .func (.func f) first caps ∧ hasBody P f = true ∧ Calls P f (first ++ args.toArray ++ caps) w fun e w2 => ∃ u, e = .returned u ∧ K u w2

/-- A function of the model's own is called. -/
def CallX (P : Program) (f : FuncId) (args : List Value) (w : World) (K : Value → World → Prop) : Prop :=
  ∃ v w1, (callFunc f args.toArray).run P w = .ok (.value v) w1 ∧ K v w1

def callD (P : Program) (ty : TypeId) (fo : Operand) (fv : Value) (args : List Value) (w : World) (K : Value → World → Prop) : Prop :=
  match fo with
  | .func f => match hasBody P f with
    | true => CallF P f args w (shOf P ty) K
    | false => CallX P f args w fun v w1 => (shOf P ty).ex fun u => v = u ∧ K u w1
  | _ => CallV P fv args w fun v w1 => (shOf P ty).ex fun u => v = u ∧ K u w1

/-- Some piece of the model is run, and hands back a value of this shape. -/
def RunS (P : Program) (s : Sem Value) (w : World) (sh : Sh) (K : Value → World → Prop) : Prop :=
  Run P s w fun v w1 => sh.ex fun u => v = u ∧ K u w1

/-- Of what shape a round's parts are: a string's place and letter, or a map's key and value. -/
def strC (P : Program) (T : Nat → TypeId) (s : Bool) (i : Nat) : Comp :=
  match s with
  | true => match i with
    | 1 => .leaf (.int .i64)
    | _ => .leaf (.int .i32)
  | false => compOf P (T i)

/-- What comes next of a map or a text: nothing, or something of these shapes. -/
def nextK (P : Program) (T : Nat → TypeId) (s : Bool) (K : Value → World → Prop) (u : Value) (w1 : World) : Prop :=
  (u = .tuple #[.bool false] ∧ K (.tuple #[.bool false]) w1) ∨ (strC P T s 1).ex fun k => (strC P T s 2).ex fun x => u = .tuple #[.bool true, k, x] ∧ K (.tuple #[.bool true, k, x]) w1

theorem nextK_elim {P : Program} {T : Nat → TypeId} {s : Bool} {K : Value → World → Prop} {u : Value} {w1 : World} (h : nextK P T s K u w1) : K u w1 := by
  rcases h with ⟨rfl, h⟩ | h
  · exact h
  · obtain ⟨k, h1⟩ := Comp.ex_sound h
    obtain ⟨x, h2⟩ := Comp.ex_sound h1
    rw [h2.1]; exact h2.2

/-- A key and its value, of these shapes. -/
def entryK (P : Program) (T : Nat → TypeId) (K : Value → World → Prop) (u : Value) (w1 : World) : Prop :=
  (compOf P (T 0)).ex fun k => (compOf P (T 1)).ex fun x => u = .tuple #[k, x] ∧ K (.tuple #[k, x]) w1

theorem entryK_elim {P : Program} {T : Nat → TypeId} {K : Value → World → Prop} {u : Value} {w1 : World} (h : entryK P T K u w1) : K u w1 := by
  obtain ⟨k, h1⟩ := Comp.ex_sound h
  obtain ⟨x, h2⟩ := Comp.ex_sound h1
  rw [h2.1]; exact h2.2

/-- Of what type a part of an operation's value is taken. -/
def partT : List Oper → Option Nat → Nat → TypeId
  | [], _, _ => 0
  | o :: os, d, i => match o.op, d with
    | .extract (.tmp s) j, some t => match Nat.beq s t, Nat.beq j i with
      | true, true => o.type
      | _, _ => partT os d i
    | _, _ => partT os d i

def opE (P : Program) (T : Nat → TypeId) (e : Env) (w : World) (o : Oper) (K : Value → World → Prop) : Prop :=
  match o.op with
  | .alloc t => zeroCellsD P t fun cs => New w (.cells cs t) fun r w1 => K (.pointer (some ⟨r, 0, none⟩)) w1
  | .box t x => onV (ev e x) fun v => New w (.cells v.cells t) fun r w1 => K (.pointer (some ⟨r, 0, none⟩)) w1
  | .buildSlice t len parts => evParts e parts.toList fun ps => RunS P (Instr.buildSlice t len ps.toArray) w (.comp (.leaf .slice)) K
  | .store t x v => onV (ev e x) fun
    | .pointer (some a) => onV (ev e v) fun u => match Nat.beq u.cells.size (P.cellsOf t) with
      | true => known P t (StL w a u.cells.toList 0 fun w1 => K undef w1)
      | false => False
    | _ => False
  | .makeSlice t l c => onV (ev e l) fun lv => onV (ev e c) fun cv => RunS P (Instr.makeSlice t lv cv) w (.comp (.leaf .slice)) K
  | .makeMap _ none => New w (.map #[] 0) fun r w1 => K (.map (some r)) w1
  | .lookup t x k ok => onV (ev e x) fun v => onV (ev e k) fun u => RunS P (Instr.lookup t v u ok) w (shOf P o.type) K
  | .mapUpdate t m k v => onV (ev e m) fun mv => onV (ev e k) fun kv => onV (ev e v) fun vv => Run P (Instr.mapUpdate t mv kv vv) w fun _ w1 => K undef w1
  | .insert t m k v => onV (ev e m) fun mv => onV (ev e k) fun kv => onV (ev e v) fun vv => Run P (Instr.mapUpdate t mv kv vv) w fun _ w1 => K undef w1
  | .range t x => onV (ev e x) fun v => RunS P (Instr.range t v) w (.comp (.leaf .ptr)) K
  | .next it s => onV (ev e it) fun v => Run P (Instr.next v s o.type) w (nextK P T s K)
  | .entry it => onV (ev e it) fun v => Run P (Instr.entry v) w (entryK P T K)
  | .convert src dst x => onV (ev e x) fun v => RunS P (convert src dst v) w (shOf P o.type) K
  | .makeInterface t x => onV (ev e x) fun v => Run P (Instr.makeInterface t v) w K
  | .call { callee := .value f, args := as, argTypes := _ } => onV (ev e f) fun fv => evs e as.toList fun vs => callD P o.type f fv vs w K
  | .call { callee := .builtin .append, args := as, argTypes := ts } => evs e as.toList fun vs => RunS P (Builtin.append_ ts o.type vs.toArray) w (.comp (.leaf .slice)) K
  | .call { callee := .builtin .copy, args := as, argTypes := ts } => evs e as.toList fun vs => RunS P (Builtin.copy_ ts o.type vs.toArray) w (.comp (.leaf (.int .i64))) K
  | .call { callee := .builtin .clear, args := as, argTypes := ts } => evs e as.toList fun vs => Run P (Builtin.clear_ ts o.type vs.toArray) w K
  | .call { callee := .builtin .delete, args := as, argTypes := ts } => evs e as.toList fun vs => Run P (Builtin.delete_ ts o.type vs.toArray) w K
  | .call { callee := .builtin .len, args := as, argTypes := ts } => evs e as.toList fun vs => RunS P (Builtin.len_ ts o.type vs.toArray) w (.comp (.leaf (.int .i64))) K
  | _ => False

theorem Run_elim {α : Type} {P : Program} {s : Sem α} {w : World} {K : α → World → Prop} (h : Run P s w K) : ∃ v w1, s.run P w = .ok v w1 ∧ K v w1 := by
  unfold Run at h
  split at h
  · rename_i v w1 hr; exact ⟨v, w1, hr, h⟩
  · exact h.elim

theorem RunS_elim {P : Program} {s : Sem Value} {w : World} {sh : Sh} {K : Value → World → Prop} (h : RunS P s w sh K) : ∃ v w1, s.run P w = .ok v w1 ∧ K v w1 := by
  obtain ⟨v, w1, hr, h⟩ := Run_elim h
  obtain ⟨u, rfl, hk⟩ := Sh.ex_sound h
  exact ⟨_, _, hr, hk⟩

theorem run_storeCells {P : Program} {a : Addr} {K : World → Prop} : ∀ {vs : List Value} {i : Nat} {w : World}, StL w a vs i K → ∃ w1, (storeCells a vs i).run P w = .ok () w1 ∧ K w1
  | [], i, w, h => ⟨w, rfl, h⟩
  | v :: vs, i, w, h => by
    obtain ⟨ho, ⟨old, hc⟩, hf, h⟩ := h
    obtain ⟨w1, hr, hk⟩ := run_storeCells (P := P) h
    refine ⟨w1, ?_, hk⟩
    simp only [storeCells, Sem.run_bind, run_store P w _ _ _ ho, hc, hf, Bool.false_eq_true, if_false, Result.andThen_ok, hr]

theorem callF_gets {P : Program} (hP : AllCallable P) {f : FuncId} {args : Array Value} {w : World} {R : Value → World → Prop} (hb : hasBody P f = true)
    (h : Calls P f args w fun e w2 => ∃ v, e = .returned v ∧ R v w2) : Gets P ((callFunc f args).run P w) R := by
  unfold hasBody at hb
  split at hb
  · rename_i fn hfn
    have hn := hP f fn hfn hb
    have hb' : fn.body.isNone = false := by cases hbb : fn.body <;> simp [hbb] at hb ⊢
    simp only [callFunc, Sem.run_bind, run_program, Result.andThen_ok, hfn, hn, hb', Bool.false_eq_true, if_false, Sem.run_pure]
    exact h
  · cases hb

theorem callD_sound {P : Program} {ty : TypeId} {fo : Operand} {fv : Value} {args : List Value} {w : World} {K : Value → World → Prop} {ρ : Operand → Value} (hf : fv = ρ fo)
    (hρ : ∀ f, ρ (.func f) = .func (.func f) #[] #[]) (h : callD P ty fo fv args w K) :
    ∃ f first caps, fv = .func (.func f) first caps ∧ ((hasBody P f = true ∧ Calls P f (first ++ args.toArray ++ caps) w fun e w2 => ∃ v, e = .returned v ∧ K v w2) ∨ ∃ v w1, (callFunc f (first ++ args.toArray ++ caps)).run P w = .ok (.value v) w1 ∧ K v w1) := by
  unfold callD at h
  split at h
  · rename_i f
    split at h
    · rename_i hb
      have h : Calls P f args.toArray w fun e w2 => ∃ v, e = .returned v ∧ K v w2 :=
        Calls.mono h fun e w2 he => Sh.ex_sound he
      refine ⟨f, #[], #[], by rw [hf, hρ], .inl ⟨hb, ?_⟩⟩
      simpa using h
    · obtain ⟨v, w1, hr, h⟩ := h
      obtain ⟨u, rfl, hk⟩ := Sh.ex_sound h
      refine ⟨f, #[], #[], by rw [hf, hρ], .inr ⟨_, w1, ?_, hk⟩⟩
      simpa using hr
  · obtain ⟨f, first, caps, rfl, hb, h⟩ := h
    refine ⟨_, _, _, rfl, .inl ⟨hb, h.mono fun e w2 ⟨u, he, hu⟩ => ?_⟩⟩
    obtain ⟨u', rfl, hk⟩ := Sh.ex_sound hu
    exact ⟨_, he, hk⟩

theorem opE_sound {P : Program} (hP : AllCallable P) {T : Nat → TypeId} {e : Env} {ρ : Operand → Value} {w : World} {o : Oper} {K : Value → World → Prop} (hρ : Agree ρ e) (h : opE P T e w o K) :
    Gets P ((execOp ρ o).run P w) K := by
  obtain ⟨dst, op, ty, pos, after, guard⟩ := o
  have lift : ∀ {s : Sem Value} {v : Value} {w1 : World}, s.run P w = .ok v w1 → K v w1 → Gets P (((do pure (Next.value (← s)) : Sem Next)).run P w) K := by
    intro s v w1 hr hk
    simp [hr, Gets, hk]
  have liftR : ∀ {s : Sem Value} {sh : Sh}, RunS P s w sh K → Gets P (((do pure (Next.value (← s)) : Sem Next)).run P w) K := by
    intro s sh h
    obtain ⟨v, w1, hr, hk⟩ := RunS_elim h
    exact lift hr hk
  have liftR' : ∀ {s : Sem Value}, Run P s w K → Gets P (((do pure (Next.value (← s)) : Sem Next)).run P w) K := by
    intro s h
    obtain ⟨v, w1, hr, hk⟩ := Run_elim h
    exact lift hr hk
  have liftE : ∀ {s : Sem Value} {t : Nat → TypeId}, Run P s w (entryK P t K) → Gets P (((do pure (Next.value (← s)) : Sem Next)).run P w) K := by
    intro s t h
    obtain ⟨v, w1, hr, hk⟩ := Run_elim h
    exact lift hr (entryK_elim hk)
  have liftN : ∀ {s : Sem Value} {b : Bool}, Run P s w (nextK P T b K) → Gets P (((do pure (Next.value (← s)) : Sem Next)).run P w) K := by
    intro s b h
    obtain ⟨v, w1, hr, hk⟩ := Run_elim h
    exact lift hr (nextK_elim hk)
  have liftU : ∀ {s : Sem Unit} {w1 : World}, s.run P w = .ok () w1 → K undef w1 → Gets P (((do s; pure Next.skip : Sem Next)).run P w) K := by
    intro s w1 hr hk
    simp [hr, Gets, hk]
  unfold opE at h
  dsimp only at h
  split at h
  · rename_i t
    obtain ⟨z, h, hz⟩ := run_zero h
    refine lift (v := .pointer (some ⟨w.heap.size, 0, none⟩)) ?_ h
    simp [Instr.alloc, hz, newVar, newRow]
  · rename_i t x
    obtain ⟨v, hv, h⟩ := onV_elim h
    simp only [execOp, hρ.val _ _ hv]
    refine lift (v := .pointer (some ⟨w.heap.size, 0, none⟩)) ?_ h
    simp [Instr.box, newVar, newRow]
  · rename_i t len parts
    have h := evParts_sound hρ h
    simp only [execOp]
    have e : (parts.toList.map fun x => (x.1, ρ x.2)).toArray = parts.map fun (i, x) => (i, ρ x) := by apply Array.ext'; simp
    rw [e] at h
    exact liftR h
  · rename_i t x v
    obtain ⟨a, ha, h⟩ := onV_elim h
    split at h
    · rename_i a
      obtain ⟨u, hu, h⟩ := onV_elim h
      split at h
      · rename_i hn
        obtain ⟨hs, h⟩ := known_elim h
        obtain ⟨w1, hr, hk⟩ := run_storeCells (P := P) h
        have hn := Nat.eq_of_beq_eq_true hn
        simp only [execOp, hρ.val _ _ ha, hρ.val _ _ hu]
        refine liftU ?_ hk
        simp [Instr.storeAt, Instr.sureAddr, storeVar, run_sizeOf' w hs, hn, hr]
      · exact h.elim
    · exact h.elim
  · obtain ⟨lv, hl, h⟩ := onV_elim h
    obtain ⟨cv, hc, h⟩ := onV_elim h
    simp only [execOp, hρ.val _ _ hl, hρ.val _ _ hc]
    exact liftR h
  · refine lift (v := .map (some w.heap.size)) ?_ h
    simp [Instr.makeMap]
  · obtain ⟨lv, hl, h⟩ := onV_elim h
    obtain ⟨cv, hc, h⟩ := onV_elim h
    simp only [execOp, hρ.val _ _ hl, hρ.val _ _ hc]
    exact liftR h
  · obtain ⟨mv, hm, h⟩ := onV_elim h
    obtain ⟨kv, hk, h⟩ := onV_elim h
    obtain ⟨vv, hv, h⟩ := onV_elim h
    obtain ⟨u, w1, hr, h⟩ := Run_elim h
    simp only [execOp, hρ.val _ _ hm, hρ.val _ _ hk, hρ.val _ _ hv]
    exact liftU hr h
  · obtain ⟨mv, hm, h⟩ := onV_elim h
    obtain ⟨kv, hk, h⟩ := onV_elim h
    obtain ⟨vv, hv, h⟩ := onV_elim h
    obtain ⟨u, w1, hr, h⟩ := Run_elim h
    simp only [execOp, hρ.val _ _ hm, hρ.val _ _ hk, hρ.val _ _ hv]
    exact liftU hr h
  · obtain ⟨v, hv, h⟩ := onV_elim h
    simp only [execOp, hρ.val _ _ hv]
    exact liftR h
  · obtain ⟨v, hv, h⟩ := onV_elim h
    simp only [execOp, hρ.val _ _ hv]
    exact liftN h
  · obtain ⟨v, hv, h⟩ := onV_elim h
    simp only [execOp, hρ.val _ _ hv]
    exact liftE h
  · obtain ⟨v, hv, h⟩ := onV_elim h
    simp only [execOp, hρ.val _ _ hv]
    exact liftR h
  · obtain ⟨v, hv, h⟩ := onV_elim h
    simp only [execOp, hρ.val _ _ hv]
    exact liftR' h
  · rename_i f as ts
    obtain ⟨fv, hf, h⟩ := onV_elim h
    have h := evs_sound hρ h
    have ea : as.map ρ = (as.toList.map ρ).toArray := by apply Array.ext'; simp
    obtain ⟨f', first, caps, hfv, h3⟩ := callD_sound (ρ := ρ) (hρ.val _ _ hf).symm (fun g => hρ.val _ _ rfl) h
    subst hfv
    rcases h3 with ⟨hb3, h3⟩ | ⟨v, w1, h3, hk⟩
    · rw [← ea] at h3
      have := callF_gets hP hb3 h3
      simpa [execOp, resolve, hρ.val _ _ hf, Deferred.ofValue, invoke] using this
    · rw [← ea] at h3
      have : Gets P ((callFunc f' (first ++ as.map ρ ++ caps)).run P w) K := by rw [h3]; exact hk
      simpa [execOp, resolve, hρ.val _ _ hf, Deferred.ofValue, invoke] using this
  all_goals first
    | exact h.elim
    | (rename_i as ts
       have h := evs_sound hρ h
       have ea : (as.toList.map ρ).toArray = as.map ρ := by apply Array.ext'; simp
       rw [ea] at h
       first
         | (have h := liftR h; simpa [execOp, resolve, invoke, builtin] using h)
         | (have h := liftR' h; simpa [execOp, resolve, invoke, builtin] using h))

end Go.D

/- Regions in a fixed order, code, loops, functions: the reading, and its soundness. -/
namespace Go.D

def convV (P : Program) (src dst : TypeId) : Bool :=
  match P.underlying src, P.underlying dst with
  | some (.int _), some (.int _) => true
  | some .string, some .string => true
  | _, _ => false

def lenV (P : Program) (t : TypeId) : Bool :=
  match P.underlying t with
  | some .string => true
  | some (.slice _) => true
  | some (.array _ _) => true
  | _ => false

def isAssign (o : Oper) : Bool := match o.op with | .assign _ => true | _ => false
def isLoad (o : Oper) : Bool := match o.op with | .load _ _ => true | _ => false

/-- A value is made; the world is only read. -/
def isV (P : Program) (o : Oper) : Bool :=
  match o.op with
  | .move _ | .pick _ _ _ | .nilCheck _ | .fieldAddr _ _ _ | .field _ _ _ | .indexAddr _ _ _ | .index _ _ _ | .binOp _ _ _ _ _ | .unOp _ _ _
  | .extract _ _ | .makeFunc _ _ _ | .build _ _ | .load _ _ | .slice _ _ _ _ _ => true
  | .convert src dst _ => convV P src dst
  | .call { callee := .builtin .len, args := _, argTypes := ts } => match ts.toList with
    | [t] => lenV P t
    | _ => false
  | .call { callee := .builtin .cap, args := _, argTypes := _ } => true
  | .call { callee := .builtin .min, args := _, argTypes := _ } => true
  | .call { callee := .builtin .max, args := _, argTypes := _ } => true
  | _ => false

/-! ## Frames -/

structure Rep (N : Nat) (a : Act) (e : Env) : Prop where
  defers : a.defers = []
  size : a.tmps.size = N
  ent : ∀ t x, find e t = some x → a.tmps[t]? = some x.val ∧ ∀ b, x.kn = some b → x.val = .bool b

theorem getV_find {e : Env} {t : Nat} {v : Value} (h : getV e t = some v) : ∃ x, find e t = some x ∧ x.val = v := by
  unfold getV at h; split at h
  · rename_i x hx; exact ⟨x, hx, by simpa using h⟩
  · cases h

theorem getK_find {e : Env} {t : Nat} {b : Bool} (h : getK e t = some b) : ∃ x, find e t = some x ∧ x.kn = some b := by
  unfold getK at h; split at h
  · rename_i x hx; exact ⟨x, hx, h⟩
  · cases h

theorem Rep.agree {N : Nat} {a : Act} {e : Env} (h : Rep N a e) : Agree a.eval e where
  val := by
    intro x v hv
    cases x with
    | tmp t =>
      obtain ⟨x, hx, rfl⟩ := getV_find hv
      simp [Act.eval, (h.ent t x hx).1]
    | const u => simpa [ev, Act.eval] using hv
    | global g => simpa [ev, Act.eval] using hv
    | func f => simpa [ev, Act.eval] using hv
  kn := by
    intro x b hb
    cases x with
    | tmp t =>
      obtain ⟨x, hx, hk⟩ := getK_find hb
      have := h.ent t x hx
      simp [Act.eval, this.1, this.2 b hk]
    | const u => cases u <;> simp [evK] at hb; simp [Act.eval, hb]
    | global g => simp [evK] at hb
    | func f => simp [evK] at hb

theorem Rep.push {N : Nat} {a : Act} {e : Env} (h : Rep N a e) {d : Nat} {v : Value} {k : Option Bool} (hd : d < N) (hk : ∀ b, k = some b → v = .bool b) :
    Rep N (a.put (some d) v) (⟨d, v, k⟩ :: e) where
  defers := h.defers
  size := by simp [Act.put, h.size]
  ent := by
    intro t x hx
    unfold find at hx
    split at hx
    · rename_i ht
      obtain rfl : d = t := Nat.eq_of_beq_eq_true ht
      obtain rfl : _ = x := by simpa using hx
      refine ⟨?_, hk⟩
      simp [Act.put, h.size, hd]
    · rename_i ht
      have hne : d ≠ t := by intro e; subst e; simp at ht
      have := h.ent t x hx
      refine ⟨?_, this.2⟩
      simp only [Act.put]
      rw [Array.getElem?_setIfInBounds_ne hne]
      exact this.1

theorem Rep.learn {N : Nat} {a : Act} {e : Env} (h : Rep N a e) {t : Nat} {b : Bool} (hv : a.tmps[t]? = some (.bool b)) :
    Rep N a (⟨t, .bool b, some b⟩ :: e) where
  defers := h.defers
  size := h.size
  ent := by
    intro u x hx
    unfold find at hx
    split at hx
    · rename_i ht
      obtain rfl : t = u := Nat.eq_of_beq_eq_true ht
      obtain rfl : _ = x := by simpa using hx
      exact ⟨hv, fun c hc => by simp at hc; simp [hc]⟩
    · exact h.ent u x hx

/-! ## One operation -/

def knOf (o : Oper) (e : Env) : Option Bool :=
  match o.op with
  | .move x => evK e x
  | .assign x => evK e x
  | .pick c a b => match evK e c with
    | some true => evK e a
    | some false => evK e b
    | none => none
  | _ => none

def putD (N : Nat) (o : Oper) (e : Env) (v : Value) (k : Option Bool) (K : Env → Prop) : Prop :=
  match o.dst with
  | none => K e
  | some d => match Nat.blt d N with
    | true => K (⟨d, v, k⟩ :: e)
    | false => False

theorem putD_sound {N : Nat} {o : Oper} {e : Env} {a : Act} {v : Value} {k : Option Bool} {K : Env → Prop} (h : putD N o e v k K) (hr : Rep N a e)
    (hk : ∀ b, k = some b → v = .bool b) : ∃ e', Rep N (a.put o.dst v) e' ∧ K e' := by
  unfold putD at h
  split at h
  · rename_i hd; rw [hd]; exact ⟨e, hr, h⟩
  · rename_i d hd
    split at h
    · rename_i hb
      rw [hd]
      exact ⟨_, hr.push (Nat.le_of_ble_eq_true hb) hk, h⟩
    · exact h.elim

theorem knOf_sound {P : Program} {o : Oper} {e : Env} {ρ : Operand → Value} {w : World} {v : Value} (hρ : Agree ρ e)
    (hrun : (execOp ρ o).run P w = .ok (.value v) w) : ∀ b, knOf o e = some b → v = .bool b := by
  intro b hb
  obtain ⟨dst, op, ty, pos, after, guard⟩ := o
  unfold knOf at hb
  dsimp only at hb
  split at hb
  · have := hρ.kn _ _ hb
    simp [execOp, this] at hrun
    exact hrun.symm
  · have := hρ.kn _ _ hb
    simp [execOp, this] at hrun
    exact hrun.symm
  · split at hb
    · rename_i hc
      have h1 := hρ.kn _ _ hc
      have h2 := hρ.kn _ _ hb
      simp [execOp, h1, h2, asBool] at hrun
      exact hrun.symm
    · rename_i hc
      have h1 := hρ.kn _ _ hc
      have h2 := hρ.kn _ _ hb
      simp [execOp, h1, h2, asBool] at hrun
      exact hrun.symm
    · cases hb
  · cases hb

def vOp (P : Program) (o : Oper) : Bool := isV P o || isAssign o

def stepD (P : Program) (N : Nat) (ops : Array Oper) (o : Oper) (e : Env) (w : World) (K : Env → World → Prop) : Prop :=
  match vOp P o with
  | true => opV P e w o fun v => putD N o e v (knOf o e) fun e => K e w
  | false => opE P (partT ops.toList o.dst) e w o fun v w1 => putD N o e v none fun e => K e w1

theorem holdD_refl {P : Program} {e : Env} {w : World} {o : Oper} {K : Value → Prop} (h : opV P e w o K) : holdD P e o w w := by
  obtain ⟨dst, op, ty, pos, after, guard⟩ := o
  unfold holdD
  dsimp only
  split
  · rename_i t x
    unfold opV at h
    dsimp only at h
    obtain ⟨v, hv, h⟩ := onV_elim h
    rw [hv]
    unfold onV
    dsimp only
    split at h
    · split
      · rfl
      · intro i _; rfl
    · exact h.elim
  · trivial

/-- What one operation hands on, in a frame that is told by an environment. -/
theorem stepD_sound {P : Program} (hP : AllCallable P) {N : Nat} {ops : Array Oper} {o : Oper} {e : Env} {a : Act} {w : World} {K : Env → World → Prop} (h : stepD P N ops o e w K) (hr : Rep N a e) :
    Gets P ((execOp a.eval o).run P w) fun v w1 => ∃ e', Rep N (a.put o.dst v) e' ∧ K e' w1 := by
  unfold stepD at h
  split at h
  · obtain ⟨v, hk, hg⟩ := opV_sound hr.agree h
    have hrun := hg w (holdD_refl h)
    rw [hrun]
    exact putD_sound hk hr (knOf_sound hr.agree hrun)
  · exact (opE_sound hP hr.agree h).mono fun v w1 hk => putD_sound hk hr (fun b hb => by cases hb)

def guardD (ops : Array Oper) (o : Oper) (e : Env) (yes no : Env → Prop) : Prop :=
  match o.guard with
  | none => yes e
  | some (j, want) => match (ops[j]?).bind (·.dst) with
    | none => False
    | some t => match getK e t with
      | some b => match b, want with
        | true, true => yes e
        | false, false => yes e
        | _, _ => no e
      | none => onV (getV e t) fun
        | .bool b => match want with
          | true => If b (yes (⟨t, .bool true, some true⟩ :: e)) (no (⟨t, .bool false, some false⟩ :: e))
          | false => If b (no (⟨t, .bool true, some true⟩ :: e)) (yes (⟨t, .bool false, some false⟩ :: e))
        | .tuple _ => no e
        | _ => False

theorem guardD_sound {N : Nat} {ops : Array Oper} {o : Oper} {e : Env} {a : Act} {yes no : Env → Prop} (h : guardD ops o e yes no) (hr : Rep N a e) :
    ∃ e', Rep N a e' ∧ ((Region.wanted o (yielded ops a.tmps) = true ∧ yes e') ∨ (Region.wanted o (yielded ops a.tmps) = false ∧ no e')) := by
  unfold guardD at h
  split at h
  · rename_i hg; exact ⟨e, hr, .inl ⟨by simp [Region.wanted, hg], h⟩⟩
  · rename_i j want hg
    split at h
    · exact h.elim
    · rename_i t ht
      split at h
      · rename_i b hb
        obtain ⟨x, hx, hk⟩ := getK_find hb
        have h1 := hr.ent t x hx
        have hy : yielded ops a.tmps j = some b := by simp [yielded, ht, h1.1, h1.2 b hk]
        refine ⟨e, hr, ?_⟩
        split at h
        · exact .inl ⟨by simp [Region.wanted, hg, hy], h⟩
        · exact .inl ⟨by simp [Region.wanted, hg, hy], h⟩
        · rename_i n1 n2
          refine .inr ⟨?_, h⟩
          simp only [Region.wanted, hg, hy]
          cases b <;> cases want <;> first | rfl | (exact (n1 rfl rfl).elim) | (exact (n2 rfl rfl).elim)
      · obtain ⟨v, hv, h⟩ := onV_elim h
        split at h
        · rename_i b
          obtain ⟨x, hx, hxv⟩ := getV_find hv
          have h1 := (hr.ent t x hx).1
          rw [hxv] at h1
          have hy : yielded ops a.tmps j = some b := by simp [yielded, ht, h1]
          split at h
          · cases b with
            | true => exact ⟨_, hr.learn h1, .inl ⟨by simp [Region.wanted, hg, hy], h.1 rfl⟩⟩
            | false => exact ⟨_, hr.learn h1, .inr ⟨by simp [Region.wanted, hg, hy], h.2 rfl⟩⟩
          · cases b with
            | true => exact ⟨_, hr.learn h1, .inr ⟨by simp [Region.wanted, hg, hy], h.1 rfl⟩⟩
            | false => exact ⟨_, hr.learn h1, .inl ⟨by simp [Region.wanted, hg, hy], h.2 rfl⟩⟩
        · rename_i vs
          obtain ⟨x, hx, hxv⟩ := getV_find hv
          have h1 := (hr.ent t x hx).1
          rw [hxv] at h1
          have hy : yielded ops a.tmps j = none := by simp [yielded, ht, h1]
          exact ⟨e, hr, .inr ⟨by simp [Region.wanted, hg, hy], h⟩⟩
        · exact h.elim

/-! ## A region in the order of the text -/

def opsD (P : Program) (N : Nat) (ops : Array Oper) : List Oper → Env → World → (Env → World → Prop) → Prop
  | [], e, w, K => K e w
  | o :: rest, e, w, K => guardD ops o e (fun e => stepD P N ops o e w fun e w => opsD P N ops rest e w K) (fun e => putD N o e undef none fun e => opsD P N ops rest e w K)

theorem opsD_sound {P : Program} (hP : AllCallable P) {N : Nat} {ops : Array Oper} {Q : Exit → Act → World → Prop} {K : Env → World → Prop}
    (hQ : ∀ a e w, Rep N a e → K e w → Q .normal a w) : ∀ (l : List Oper) (k : Nat) (e : Env) (a : Act) (w : World), ops.toList.drop k = l → opsD P N ops l e w K → Rep N a e →
      wpOps P ops Q (List.range' k l.length) a w
  | [], k, e, a, w, _, h, hr => hQ a e w hr h
  | o :: rest, k, e, a, w, hl, h, hr => by
    have hk : ops[k]? = some o := by
      have : (ops.toList.drop k)[0]? = some o := by rw [hl]; rfl
      simpa using this
    have hl' : ops.toList.drop (k + 1) = rest := by
      rw [← List.tail_drop, hl]; rfl
    unfold opsD at h
    obtain ⟨e', hr', h⟩ := guardD_sound h hr
    simp only [List.length_cons, List.range'_succ, wpOps, hk]
    rcases h with ⟨hw, h⟩ | ⟨hw, h⟩
    · rw [if_pos hw]
      refine .inl (Gets.wp (stepD_sound hP h hr') fun v w1 ⟨e2, hr2, hk2⟩ => ?_)
      exact opsD_sound hP hQ rest (k + 1) e2 _ w1 hl' hk2 hr2
    · rw [if_neg (by simp [hw])]
      obtain ⟨e2, hr2, hk2⟩ := putD_sound h hr' (fun b hb => by cases hb)
      exact opsD_sound hP hQ rest (k + 1) e2 _ w hl' hk2 hr2

end Go.D

/- Regions that draw their order: one order serves all, where the operations may be taken first; the reading, and its soundness. -/
namespace Go.D

inductive Plan where
  | done
  | take (i : Nat) (p : Plan)
  | both (i : Nat) (p : Plan) (j : Nat) (q : Plan)
  | three (i : Nat) (p : Plan) (j : Nat) (q : Plan) (l : Nat) (r : Plan)

/-- Is operation i before operation k? M: of each operation, those that are before it. -/
def mhas (M : List Nat) (k i : Nat) : Bool := (M.getD k 0).testBit i

def maskL (M : List Nat) : List Edge → Nat → Nat
  | [], s => s
  | e :: r, s => match Region.binds .any e with
    | true => maskL M r (s ||| 2 ^ e.on ||| M.getD e.on 0)
    | false => maskL M r s

def edgesL (k : Nat) : List Edge → Bool
  | [] => true
  | e :: r => (!Region.binds .any e || Nat.blt e.on k) && edgesL k r

def chkE (M : List Nat) : List Oper → Nat → Bool
  | [], _ => true
  | o :: r, k => Nat.beq (M.getD k 0) (maskL M o.after.toList 0) && edgesL k o.after.toList && chkE M r (k + 1)

def hasT (l : List Nat) (t : Nat) : Bool := l.any fun x => Nat.beq x t

def isDst (o : Oper) (t : Nat) : Bool := match o.dst with
  | some d => Nat.beq d t
  | none => false

def okPair (P : Program) (ops : Array Oper) (M : List Nat) (i : Nat) (oi : Oper) (d k : Nat) (ok : Oper) : Bool :=
  (Nat.beq k i || !isDst ok d) &&
  (mhas M i k || (match ok.dst with | none => true | some dk => !hasT (oi.looksAt ops) dk) || (!isV P ok && mhas M k i)) &&
  (!hasT (ok.looksAt ops) d || mhas M k i)

def okAll (P : Program) (ops : Array Oper) (M : List Nat) (i : Nat) (oi : Oper) (d : Nat) : List Oper → Nat → Bool
  | [], _ => true
  | ok :: r, k => okPair P ops M i oi d k ok && okAll P ops M i oi d r (k + 1)

def chkV (P : Program) (ops : Array Oper) (M : List Nat) : List Oper → Nat → Bool
  | [], _ => true
  | oi :: r, i => (match isV P oi with
      | true => match oi.dst with
        | some d => okAll P ops M i oi d ops.toList 0
        | none => false
      | false => true) && chkV P ops M r (i + 1)

def chkR (P : Program) (ops : Array Oper) (M : List Nat) : Bool :=
  chkE M ops.toList 0 && chkV P ops M ops.toList 0 && ops.toList.all (fun o => match o.op with | .select _ _ => false | _ => true)

def inL : List Nat → Nat → Bool
  | [], _ => false
  | x :: r, t => match Nat.beq x t with
    | true => true
    | false => inL r t

theorem inL_iff {l : List Nat} {t : Nat} : inL l t = true ↔ t ∈ l := by
  induction l with
  | nil => simp [inL]
  | cons x r ih =>
    unfold inL
    by_cases h : x = t
    · subst h; simp
    · have : Nat.beq x t = false := by
        cases hb : Nat.beq x t with
        | false => rfl
        | true => exact absurd (Nat.eq_of_beq_eq_true hb) h
      rw [this]; simp [ih, Ne.symm h]

def depsIn (L : List Nat) : List Edge → Bool
  | [] => true
  | e :: r => (!Region.binds .any e || inL L e.on) && depsIn L r

/-- All but those that wait for operation i have come up. -/
def forced (M : List Nat) (L : List Nat) (i : Nat) : Nat → Bool
  | 0 => true
  | n + 1 => (inL L n || Nat.beq n i || mhas M n i) && forced M L i n

def forced2 (M : List Nat) (L : List Nat) (i j : Nat) : Nat → Bool
  | 0 => true
  | n + 1 => (inL L n || Nat.beq n i || Nat.beq n j || mhas M n i || mhas M n j) && forced2 M L i j n

def forced3 (M : List Nat) (L : List Nat) (i j l : Nat) : Nat → Bool
  | 0 => true
  | n + 1 => (inL L n || Nat.beq n i || Nat.beq n j || Nat.beq n l || mhas M n i || mhas M n j || mhas M n l) && forced3 M L i j l n

def allL (L : List Nat) : Nat → Bool
  | 0 => true
  | n + 1 => inL L n && allL L n

abbrev Held := List (Nat × (World → Prop))

def heldD (M : List Nat) (i : Nat) (w1 : World) (K : Prop) : Held → Prop
  | [] => K
  | (r, h) :: rs => match mhas M i r with
    | true => heldD M i w1 K rs
    | false => h w1 ∧ heldD M i w1 K rs

def dropH (M : List Nat) (i : Nat) : Held → Held
  | [] => []
  | (r, h) :: rs => match mhas M i r with
    | true => dropH M i rs
    | false => (r, h) :: dropH M i rs

/-- An operation that may change the world, with what it must leave as it was. -/
def execD (P : Program) (N : Nat) (ops : Array Oper) (M : List Nat) (i : Nat) (o : Oper) (H : Held) (e : Env) (w : World) (K : Env → World → Prop) : Prop :=
  guardD ops o e (fun e => stepD P N ops o e w fun e1 w1 => heldD M i w1 (K e1 w1) H) (fun e => putD N o e undef none fun e => K e w)

def planD (P : Program) (N : Nat) (ops : Array Oper) (M : List Nat) : Plan → List Nat → Held → Env → World → (Env → World → Prop) → Prop
  | .done, L, _, e, w, K => match allL L ops.size with
    | true => K e w
    | false => False
  | .take i p, L, H, e, w, K =>
    match ops[i]? with
    | none => False
    | some o => match !inL L i && depsIn L o.after.toList with
      | false => False
      | true => match isV P o with
        | true => guardD ops o e
            (fun e => opV P e w o fun v => putD N o e v (knOf o e) fun e1 => planD P N ops M p (i :: L) (match isLoad o with | true => (i, fun w' => holdD P e o w w') :: H | false => H) e1 w K)
            (fun e => putD N o e undef none fun e => planD P N ops M p (i :: L) H e w K)
        | false => match forced M L i ops.size with
          | true => execD P N ops M i o H e w fun e1 w1 => planD P N ops M p (i :: L) (dropH M i H) e1 w1 K
          | false => False
  | .both i p j q, L, H, e, w, K =>
    match ops[i]?, ops[j]? with
    | some o, some u => match !inL L i && depsIn L o.after.toList && !inL L j && depsIn L u.after.toList && !isV P o && !isV P u && forced2 M L i j ops.size with
      | true => (execD P N ops M i o H e w fun e1 w1 => planD P N ops M p (i :: L) (dropH M i H) e1 w1 K) ∧
          (execD P N ops M j u H e w fun e1 w1 => planD P N ops M q (j :: L) (dropH M j H) e1 w1 K)
      | false => False
    | _, _ => False
  | .three i p j q l r, L, H, e, w, K =>
    match ops[i]?, ops[j]?, ops[l]? with
    | some o, some u, some z => match !inL L i && depsIn L o.after.toList && !inL L j && depsIn L u.after.toList && !inL L l && depsIn L z.after.toList && !isV P o && !isV P u && !isV P z && forced3 M L i j l ops.size with
      | true => (execD P N ops M i o H e w fun e1 w1 => planD P N ops M p (i :: L) (dropH M i H) e1 w1 K) ∧
          (execD P N ops M j u H e w fun e1 w1 => planD P N ops M q (j :: L) (dropH M j H) e1 w1 K) ∧
          (execD P N ops M l z H e w fun e1 w1 => planD P N ops M r (l :: L) (dropH M l H) e1 w1 K)
      | false => False
    | _, _, _ => False

/-! ## Soundness -/
section
variable {P : Program} {N : Nat} {ops : Array Oper} {M : List Nat}

theorem maskL_spec {M : List Nat} {i : Nat} : ∀ {l : List Edge} {s : Nat}, (maskL M l s).testBit i = true ↔
    s.testBit i = true ∨ ∃ e ∈ l, Region.binds .any e = true ∧ (i = e.on ∨ (M.getD e.on 0).testBit i = true)
  | [], s => by simp [maskL]
  | e :: r, s => by
    unfold maskL
    split
    · rename_i hb
      rw [maskL_spec]
      simp only [Nat.testBit_or, Bool.or_eq_true, Nat.testBit_two_pow, decide_eq_true_eq, List.mem_cons, exists_eq_or_imp, hb, true_and]
      constructor
      · rintro ((h | h) | h)
        · rcases h with h | h
          · exact .inl h
          · exact .inr (.inl (.inl h.symm))
        · exact .inr (.inl (.inr h))
        · exact .inr (.inr h)
      · rintro (h | (h | h) | h)
        · exact .inl (.inl (.inl h))
        · exact .inl (.inl (.inr h.symm))
        · exact .inl (.inr h)
        · exact .inr h
    · rename_i hb
      rw [maskL_spec]
      simp [hb]

theorem edgesL_spec {k : Nat} : ∀ {l : List Edge}, edgesL k l = true → ∀ e ∈ l, Region.binds .any e = true → e.on < k
  | [], _, e, he, _ => by cases he
  | x :: r, h, e, he, hb => by
    simp only [edgesL, Bool.and_eq_true, Bool.or_eq_true, Bool.not_eq_true'] at h
    rcases List.mem_cons.1 he with rfl | he
    · rcases h.1 with h1 | h1
      · rw [hb] at h1; cases h1
      · exact Nat.le_of_ble_eq_true h1
    · exact edgesL_spec h.2 e he hb

theorem chkE_spec : ∀ {l : List Oper} {k : Nat}, chkE M l k = true → ∀ j o, l[j]? = some o → M.getD (k + j) 0 = maskL M o.after.toList 0 ∧ edgesL (k + j) o.after.toList = true
  | [], k, _, j, o, ho => by simp at ho
  | x :: r, k, h, j, o, ho => by
    simp only [chkE, Bool.and_eq_true] at h
    cases j with
    | zero =>
      obtain rfl : x = o := by simpa using ho
      exact ⟨Nat.eq_of_beq_eq_true h.1.1, h.1.2⟩
    | succ j =>
      have := chkE_spec h.2 j o (by simpa using ho)
      rw [show k + (j + 1) = k + 1 + j by omega]
      exact this

structure Good (P : Program) (ops : Array Oper) (M : List Nat) : Prop where
  mask : ∀ {k : Nat} {o : Oper} {i : Nat}, ops[k]? = some o → (mhas M k i = true ↔ ∃ e ∈ o.after, Region.binds .any e = true ∧ (i = e.on ∨ mhas M e.on i = true))
  lt : ∀ {k : Nat} {o : Oper} {e : Edge}, ops[k]? = some o → e ∈ o.after → Region.binds .any e = true → e.on < k
  pair : ∀ {i : Nat} {oi : Oper} {k : Nat} {ok : Oper}, ops[i]? = some oi → isV P oi = true → ops[k]? = some ok → ∃ d, oi.dst = some d ∧ okPair P ops M i oi d k ok = true
  nosel : ∀ {k : Nat} {o : Oper} {cs : Array SelectCase} {b : Bool}, ops[k]? = some o → o.op ≠ .select cs b

theorem okAll_spec {i d : Nat} {oi : Oper} : ∀ {l : List Oper} {k : Nat}, okAll P ops M i oi d l k = true → ∀ j o, l[j]? = some o → okPair P ops M i oi d (k + j) o = true
  | [], k, _, j, o, ho => by simp at ho
  | x :: r, k, h, j, o, ho => by
    simp only [okAll, Bool.and_eq_true] at h
    cases j with
    | zero => obtain rfl : x = o := by simpa using ho
              exact h.1
    | succ j =>
      have := okAll_spec h.2 j o (by simpa using ho)
      rw [show k + (j + 1) = k + 1 + j by omega]
      exact this

theorem chkV_spec : ∀ {l : List Oper} {i : Nat}, chkV P ops M l i = true → ∀ j oi, l[j]? = some oi → isV P oi = true → ∃ d, oi.dst = some d ∧ okAll P ops M (i + j) oi d ops.toList 0 = true
  | [], i, _, j, o, ho, _ => by simp at ho
  | x :: r, i, h, j, o, ho, hv => by
    simp only [chkV, Bool.and_eq_true] at h
    cases j with
    | zero =>
      obtain rfl : x = o := by simpa using ho
      have h1 := h.1
      rw [hv] at h1
      dsimp only at h1
      cases hd : x.dst with
      | none => rw [hd] at h1; cases h1
      | some d => rw [hd] at h1; exact ⟨d, rfl, h1⟩
    | succ j =>
      have := chkV_spec h.2 j o (by simpa using ho) hv
      rw [show i + (j + 1) = i + 1 + j by omega]
      exact this

theorem good_of_chk (h : chkR P ops M = true) : Good P ops M := by
  simp only [chkR, Bool.and_eq_true] at h
  obtain ⟨⟨h1, h2⟩, h3⟩ := h
  refine ⟨fun {k o i} hk => ?_, fun {k o e} hk he hb => ?_, fun {i oi k ok} hi hv hk => ?_, fun {k o cs b} hk heq => ?_⟩
  · have := (chkE_spec h1 k o (by simpa using hk)).1
    rw [Nat.zero_add] at this
    unfold mhas
    rw [this, maskL_spec]
    simp
  · have := (chkE_spec h1 k o (by simpa using hk)).2
    rw [Nat.zero_add] at this
    exact edgesL_spec this e (by simpa using he) hb
  · obtain ⟨d, hd, h⟩ := chkV_spec h2 i oi (by simpa using hi) hv
    rw [Nat.zero_add] at h
    have := okAll_spec h k ok (by simpa using hk)
    rw [Nat.zero_add] at this
    exact ⟨d, hd, this⟩
  · have := List.all_eq_true.1 h3 o (List.mem_of_getElem? (by simpa using hk))
    simp [heq] at this

/-- What has come up is closed against what is before it. -/
def Closed (ops : Array Oper) (S : Nat → Prop) : Prop := ∀ k o, ops[k]? = some o → S k → ∀ e ∈ o.after, Region.binds .any e = true → S e.on

theorem closed_before (hg : Good P ops M) {S : Nat → Prop} (hc : Closed ops S) : ∀ (k : Nat) (o : Oper) (i : Nat), ops[k]? = some o →
    (∀ e ∈ o.after, Region.binds .any e = true → S e.on) → mhas M k i = true → S i := by
  intro k
  induction k using Nat.strongRecOn with
  | _ k ih =>
    intro o i hk hd hm
    obtain ⟨e, he, hb, h⟩ := (hg.mask hk).1 hm
    have hlt := hg.lt hk he hb
    have hl := hd e he hb
    rcases h with rfl | h
    · exact hl
    · have hks : k < ops.size := (Array.getElem?_eq_some_iff.1 hk).1
      have hon : e.on < ops.size := by omega
      have ho' : ops[e.on]? = some ops[e.on] := by simp [hon]
      exact ih e.on hlt _ i ho' (hc _ _ ho' hl) h

/-- Has it come up? -/
def Up (Ld : Array Bool) (k : Nat) : Prop := Ld.getD k false = true

theorem up_iff {Ld : Array Bool} {k : Nat} (h : k < Ld.size) : Up Ld k ↔ Ld.getD k true = true := by
  unfold Up; simp [h]

theorem up_set {Ld : Array Bool} {j k : Nat} (hj : j < Ld.size) : Up (Ld.setIfInBounds j true) k ↔ (k = j ∨ Up Ld k) := by
  unfold Up
  by_cases h : j = k
  · subst h; simp [hj]
  · rw [getD_set_ne false h]
    simp [Ne.symm h]

/-- An operation that has been taken ahead: what it yields, in whatever world holds to h. -/
structure Ahead (P : Program) (ops : Array Oper) (a : Act) (w : World) (H : Held) (o : Oper) (i : Nat) (v : Value) : Prop where
  at_ : a.tmps.size = a.tmps.size ∧ ∀ d, o.dst = some d → a.tmps[d]? = some v
  val : (Region.wanted o (yielded ops a.tmps) = true ∧ ∃ h : World → Prop, (∀ w', h w' → (execOp a.eval o).run P w' = .ok (.value v) w') ∧ h w ∧ ((∀ w', h w') ∨ (i, h) ∈ H)) ∨
    (Region.wanted o (yielded ops a.tmps) = false ∧ v = undef)

structure Sim (P : Program) (N : Nat) (ops : Array Oper) (M : List Nat) (L : List Nat) (Ld : Array Bool) (pend : List Nat) (H : Held) (a a' : Act) (w : World) : Prop where
  size : Ld.size = ops.size
  closed : Closed ops (Up Ld)
  lclosed : Closed ops (· ∈ L)
  listed : ∀ k, k < ops.size → (k ∈ L ↔ (Up Ld k ∨ k ∈ pend))
  apart : ∀ k ∈ pend, ¬ Up Ld k
  ahead : ∀ i ∈ pend, ∃ o v, ops[i]? = some o ∧ isV P o = true ∧ Ahead P ops a w H o i v
  asize : a'.tmps.size = N
  asize' : a.tmps.size = N
  adef : a'.defers = []
  frame : ∀ t, (∀ i ∈ pend, ∀ o, ops[i]? = some o → o.dst ≠ some t) → a'.tmps[t]? = a.tmps[t]?

theorem looks_operand {o : Oper} {x : Operand} {t : Nat} (hx : x ∈ o.op.operands) (ht : x = .tmp t) : t ∈ o.looksAt ops := by
  unfold Oper.looksAt
  refine List.mem_append_left _ (List.mem_filterMap.2 ⟨x, by simpa using hx, by subst ht; rfl⟩)

theorem looks_guard {o : Oper} {g : Nat} {b : Bool} {d : Nat} (hg : o.guard = some (g, b)) (hd : (ops[g]?).bind (·.dst) = some d) : d ∈ o.looksAt ops := by
  unfold Oper.looksAt
  rw [hg]
  exact List.mem_append_right _ (by simp [hd])

/-- Frames that agree on what an operation looks at run it alike. -/
theorem exec_same {o : Oper} (hs : ∀ cs b, o.op ≠ .select cs b) {a a' : Act} (h : ∀ t ∈ o.looksAt ops, a'.tmps[t]? = a.tmps[t]?) :
    execOp a'.eval o = execOp a.eval o ∧ Region.wanted o (yielded ops a'.tmps) = Region.wanted o (yielded ops a.tmps) := by
  constructor
  · refine execOp_congr o hs fun x hx => ?_
    cases x with
    | tmp t =>
      have := h t (looks_operand hx rfl)
      simp [Act.eval, this]
    | const u => rfl
    | global g => rfl
    | func f => rfl
  · unfold Region.wanted
    cases hg : o.guard with
    | none => rfl
    | some gb =>
      obtain ⟨g, b⟩ := gb
      dsimp only
      unfold yielded
      cases hd : (ops[g]?).bind (·.dst) with
      | none => rfl
      | some d =>
        have := h d (looks_guard hg hd)
        simp [this]

theorem hasT_iff {l : List Nat} {t : Nat} : hasT l t = true ↔ t ∈ l := by
  simp only [hasT, List.any_eq_true]
  constructor
  · rintro ⟨x, hx, hb⟩; rw [← Nat.eq_of_beq_eq_true hb]; exact hx
  · intro h; exact ⟨t, h, by simp⟩

/-- What an operation that may come up now looks at, is in the frame as it is told. -/
theorem Sim.looks {L : List Nat} {Ld : Array Bool} {pend : List Nat} {H : Held} {a a' : Act} {w : World} (hg : Good P ops M) (s : Sim P N ops M L Ld pend H a a' w)
    {j : Nat} {oj : Oper} (hj : ops[j]? = some oj) (hd : ∀ e ∈ oj.after, Region.binds .any e = true → Up Ld e.on) :
    ∀ t ∈ oj.looksAt ops, a'.tmps[t]? = a.tmps[t]? := by
  intro t ht
  refine s.frame t fun i hi o ho hdst => ?_
  obtain ⟨o', v, ho', hv, _⟩ := s.ahead i hi
  obtain rfl : o = o' := by rw [ho] at ho'; simpa using ho'
  obtain ⟨d, hd', hp⟩ := hg.pair ho hv hj
  obtain rfl : d = t := by rw [hdst] at hd'; simpa using hd'.symm
  simp only [okPair, Bool.and_eq_true, Bool.or_eq_true, Bool.not_eq_true'] at hp
  rcases hp.2 with h | h
  · rw [← Bool.not_eq_true, hasT_iff] at h; exact h ht
  · exact s.apart i hi (closed_before hg s.closed j oj i hj hd h)

theorem ready_iff {Ld : Array Bool} (hsz : Ld.size = ops.size) {j : Nat} : j ∈ Region.ready .any ops Ld ↔ ¬ Up Ld j ∧ ∃ o, ops[j]? = some o ∧ ∀ e ∈ o.after, Region.binds .any e = true → Up Ld e.on := by
  rw [mem_ready]
  constructor
  · rintro ⟨h, o, ho, hd⟩
    have hlt : j < Ld.size := by rw [hsz]; exact (Array.getElem?_eq_some_iff.1 ho).1
    refine ⟨?_, o, ho, hd⟩
    rw [up_iff hlt, h]; simp
  · rintro ⟨h, o, ho, hd⟩
    have hlt : j < Ld.size := by rw [hsz]; exact (Array.getElem?_eq_some_iff.1 ho).1
    refine ⟨?_, o, ho, hd⟩
    rw [up_iff hlt] at h
    simpa using h

theorem all_up (hg : Good P ops M) {Ld : Array Bool} (hsz : Ld.size = ops.size) (hr : Region.ready .any ops Ld = []) : ∀ k, k < ops.size → Up Ld k := by
  intro k
  induction k using Nat.strongRecOn with
  | _ k ih =>
    intro hk
    refine Classical.byContradiction fun hn => ?_
    have : k ∈ Region.ready .any ops Ld := (ready_iff hsz).2 ⟨hn, ops[k], by simp [hk], fun e he hb => ih e.on (hg.lt (k := k) (by simp [hk]) he hb) (by have := hg.lt (k := k) (o := ops[k]) (by simp [hk]) he hb; omega)⟩
    rw [hr] at this
    cases this

theorem closed_set {Ld : Array Bool} (hsz : Ld.size = ops.size) (hc : Closed ops (Up Ld)) {j : Nat} {oj : Oper} (hj : ops[j]? = some oj)
    (hd : ∀ e ∈ oj.after, Region.binds .any e = true → Up Ld e.on) : Closed ops (Up (Ld.setIfInBounds j true)) := by
  have hlt : j < Ld.size := by rw [hsz]; exact (Array.getElem?_eq_some_iff.1 hj).1
  intro k o hk hu e he hb
  rw [up_set hlt] at hu ⊢
  rcases hu with rfl | hu
  · obtain rfl : o = oj := by rw [hk] at hj; simpa using hj
    exact .inr (hd e he hb)
  · exact .inr (hc k o hk hu e he hb)

/-- An operation that was taken ahead comes up. -/
theorem sim_pend (hg : Good P ops M) {L : List Nat} {Ld : Array Bool} {pend : List Nat} {H : Held} {a a' : Act} {w : World} (s : Sim P N ops M L Ld pend H a a' w)
    {j : Nat} (hjp : j ∈ pend) (hr : j ∈ Region.ready .any ops Ld) {Q : Exit → Act → World → Prop} {K : Act → World → Prop}
    (hK : ∀ a'', Sim P N ops M L (Ld.setIfInBounds j true) (pend.filter (· != j)) H a a'' w → K a'' w) : wpOp P ops Q j K a' w := by
  obtain ⟨o, v, ho, hv, hah⟩ := s.ahead j hjp
  obtain ⟨hnu, o', ho', hd⟩ := (ready_iff s.size).1 hr
  obtain rfl : o = o' := by rw [ho] at ho'; simpa using ho'
  have hlt : j < Ld.size := by rw [s.size]; exact (Array.getElem?_eq_some_iff.1 ho).1
  obtain ⟨he, hw⟩ := exec_same (ops := ops) (fun cs b => hg.nosel ho) (s.looks hg ho hd)
  obtain ⟨d, hdst, _⟩ := hg.pair ho hv ho
  have hsim : Sim P N ops M L (Ld.setIfInBounds j true) (pend.filter (· != j)) H a (a'.put o.dst v) w := by
    refine ⟨by simp [s.size], closed_set s.size s.closed ho hd, s.lclosed, fun k hk => ?_, fun k hk => ?_, fun i hi => ?_, by simp [hdst, Act.put, s.asize], s.asize', by simp [hdst, Act.put, s.adef], fun t ht => ?_⟩
    · rw [s.listed k hk, up_set hlt, List.mem_filter]
      by_cases hkj : k = j
      · subst hkj; simp [hjp]
      · simp [hkj]
    · rw [List.mem_filter] at hk
      rw [up_set hlt]
      simp only [bne_iff_ne, ne_eq] at hk
      rintro (h | h)
      · exact hk.2 h
      · exact s.apart k hk.1 h
    · exact s.ahead i (List.mem_filter.1 hi).1
    · rw [hdst]
      simp only [Act.put]
      by_cases htd : d = t
      · subst htd
        have h1 := hah.at_.2 d hdst
        have h2 : d < a.tmps.size := (Array.getElem?_eq_some_iff.1 h1).1
        rw [h1]
        simp [s.asize, ← s.asize', h2]
      · rw [Array.getElem?_setIfInBounds_ne htd]
        refine s.frame t fun i hi oi hoi hdi => ?_
        by_cases hij : i = j
        · subst hij
          obtain rfl : oi = o := by rw [ho] at hoi; simpa using hoi.symm
          rw [hdst] at hdi; exact htd (by simpa using hdi)
        · exact ht i (List.mem_filter.2 ⟨hi, by simpa using hij⟩) oi hoi hdi
  unfold wpOp
  simp only [ho]
  rcases hah.val with ⟨hwt, h, hrun, hh, _⟩ | ⟨hwf, rfl⟩
  · rw [if_pos (by rw [hw]; exact hwt)]
    refine .inl (Gets.wp (R := fun u w1 => u = v ∧ w1 = w) ?_ ?_)
    · rw [he, hrun w hh]; exact ⟨rfl, rfl⟩
    · rintro u w1 ⟨rfl, rfl⟩; exact hK _ hsim
  · rw [if_neg (by rw [hw, hwf]; simp)]
    exact hK _ hsim

/-- An operation that only makes a value is taken ahead. -/
theorem sim_take (hg : Good P ops M) {L : List Nat} {Ld : Array Bool} {pend : List Nat} {H : Held} {a a' : Act} {w : World} (s : Sim P N ops M L Ld pend H a a' w)
    {i : Nat} {o : Oper} (ho : ops[i]? = some o) (hv : isV P o = true) (hL : i ∉ L) (hdep : ∀ e ∈ o.after, Region.binds .any e = true → e.on ∈ L) {v : Value} {H' : Held}
    (hH : ∀ x, x ∈ H → x ∈ H')
    (hval : (Region.wanted o (yielded ops a.tmps) = true ∧ ∃ h : World → Prop, (∀ w', h w' → (execOp a.eval o).run P w' = .ok (.value v) w') ∧ h w ∧ ((∀ w', h w') ∨ (i, h) ∈ H')) ∨
      (Region.wanted o (yielded ops a.tmps) = false ∧ v = undef)) (hdN : ∀ d, o.dst = some d → d < N) :
    Sim P N ops M (i :: L) Ld (i :: pend) H' (a.put o.dst v) a' w := by
  have hlt : i < ops.size := (Array.getElem?_eq_some_iff.1 ho).1
  obtain ⟨d, hdst, _⟩ := hg.pair ho hv ho
  have hdn := hdN d hdst
  have hnu : ¬ Up Ld i := fun h => hL ((s.listed i hlt).2 (.inl h))
  -- what the older ones look at, and where they lie, is not turned by this one
  have older : ∀ k ok, ops[k]? = some ok → isV P ok = true → k ∈ L → (∀ t ∈ ok.looksAt ops, (a.put o.dst v).tmps[t]? = a.tmps[t]?) ∧ (∀ dk, ok.dst = some dk → (a.put o.dst v).tmps[dk]? = a.tmps[dk]?) := by
    intro k ok hk hkv hkL
    obtain ⟨dk, hdk, hp⟩ := hg.pair hk hkv ho
    simp only [okPair, Bool.and_eq_true, Bool.or_eq_true, Bool.not_eq_true'] at hp
    have hik : i ≠ k := fun e => hL (e ▸ hkL)
    refine ⟨fun t ht => ?_, fun dk' hdk' => ?_⟩
    · rw [hdst]
      simp only [Act.put]
      refine Array.getElem?_setIfInBounds_ne fun hdt => ?_
      subst hdt
      rcases hp.1.2 with (h | h) | h
      · exact hL (closed_before hg s.lclosed k ok i hk (s.lclosed k ok hk hkL) h)
      · rw [hdst] at h
        simp only [Bool.not_eq_true'] at h
        rw [← Bool.not_eq_true, hasT_iff] at h
        exact h ht
      · rw [hv] at h; simp at h
    · obtain rfl : dk = dk' := by rw [hdk] at hdk'; simpa using hdk'
      rw [hdst]
      simp only [Act.put]
      refine Array.getElem?_setIfInBounds_ne fun hdt => ?_
      subst hdt
      rcases hp.1.1 with h | h
      · exact hik (Nat.eq_of_beq_eq_true h)
      · simp [isDst, hdst] at h
  have self := older
  refine ⟨s.size, s.closed, ?_, fun k hk => ?_, fun k hk => ?_, fun k hk => ?_, s.asize, by simp [hdst, Act.put, s.asize'], s.adef, fun t ht => ?_⟩
  · intro k ok hk hkL e he hb
    rcases List.mem_cons.1 hkL with rfl | hkL
    · obtain rfl : ok = o := by rw [ho] at hk; simpa using hk.symm
      exact List.mem_cons_of_mem _ (hdep e he hb)
    · exact List.mem_cons_of_mem _ (s.lclosed k ok hk hkL e he hb)
  · simp only [List.mem_cons, s.listed k hk]
    constructor
    · rintro (h | h | h)
      · exact .inr (.inl h)
      · exact .inl h
      · exact .inr (.inr h)
    · rintro (h | h | h)
      · exact .inr (.inl h)
      · exact .inl h
      · exact .inr (.inr h)
  · rcases List.mem_cons.1 hk with rfl | hk
    · exact hnu
    · exact s.apart k hk
  · rcases List.mem_cons.1 hk with rfl | hk
    · refine ⟨o, v, ho, hv, ⟨rfl, fun d' hd' => ?_⟩, ?_⟩
      · rw [hd']
        have : d' < a.tmps.size := by rw [s.asize']; exact hdN d' hd'
        simp [Act.put, this]
      · -- it does not look at its own place
        obtain ⟨d2, hd2, hp⟩ := hg.pair ho hv ho
        have hne : ∀ t ∈ o.looksAt ops, (a.put o.dst v).tmps[t]? = a.tmps[t]? := by
          intro t ht
          rw [hdst]
          simp only [Act.put]
          refine Array.getElem?_setIfInBounds_ne fun hdt => ?_
          subst hdt
          obtain rfl : d = d2 := by rw [hdst] at hd2; simpa using hd2
          simp only [okPair, Bool.and_eq_true, Bool.or_eq_true, Bool.not_eq_true'] at hp
          have hself : mhas M k k = false := by
            cases hm : mhas M k k with
            | false => rfl
            | true => exact absurd (closed_before hg s.lclosed k o k ho hdep hm) hL
          rcases hp.2 with h | h
          · rw [← Bool.not_eq_true, hasT_iff] at h; exact h ht
          · rw [hself] at h; cases h
        obtain ⟨he, hw⟩ := exec_same (ops := ops) (fun cs b => hg.nosel ho) hne
        rw [hw, he]
        exact hval
    · obtain ⟨ok, vk, hok, hkv, hah⟩ := s.ahead k hk
      have hks : k < ops.size := (Array.getElem?_eq_some_iff.1 hok).1
      have hkL : k ∈ L := (s.listed k hks).2 (.inr hk)
      obtain ⟨h1, h2⟩ := older k ok hok hkv hkL
      obtain ⟨he, hw⟩ := exec_same (ops := ops) (fun cs b => hg.nosel hok) h1
      refine ⟨ok, vk, hok, hkv, ⟨rfl, fun dk hdk => by rw [h2 dk hdk]; exact hah.at_.2 dk hdk⟩, ?_⟩
      rw [hw, he]
      rcases hah.val with ⟨hwt, h, hrun, hh, hhH⟩ | hno
      · exact .inl ⟨hwt, h, hrun, hh, hhH.imp id (hH _)⟩
      · exact .inr hno
  · rw [hdst]
    simp only [Act.put]
    have htd : d ≠ t := fun e => ht i (by simp) o ho (by rw [hdst, e])
    rw [Array.getElem?_setIfInBounds_ne htd]
    exact s.frame t fun k hk ok hok => ht k (List.mem_cons_of_mem _ hk) ok hok

theorem depsIn_spec {L : List Nat} : ∀ {l : List Edge}, depsIn L l = true → ∀ e ∈ l, Region.binds .any e = true → e.on ∈ L
  | [], _, e, he, _ => by cases he
  | x :: r, h, e, he, hb => by
    simp only [depsIn, Bool.and_eq_true, Bool.or_eq_true, Bool.not_eq_true'] at h
    rcases List.mem_cons.1 he with rfl | he
    · rcases h.1 with h1 | h1
      · rw [hb] at h1; cases h1
      · exact inL_iff.1 h1
    · exact depsIn_spec h.2 e he hb

theorem forced_spec {L : List Nat} {i : Nat} : ∀ {n : Nat}, forced M L i n = true → ∀ k, k < n → k ∈ L ∨ k = i ∨ mhas M k i = true
  | 0, _, k, hk => absurd hk (by omega)
  | n + 1, h, k, hk => by
    simp only [forced, Bool.and_eq_true, Bool.or_eq_true] at h
    by_cases e : k = n
    · subst e
      rcases h.1 with (h1 | h1) | h1
      · exact .inl (inL_iff.1 h1)
      · exact .inr (.inl (Nat.eq_of_beq_eq_true h1))
      · exact .inr (.inr h1)
    · exact forced_spec h.2 k (by omega)

theorem forced2_spec {L : List Nat} {i j : Nat} : ∀ {n : Nat}, forced2 M L i j n = true → ∀ k, k < n → k ∈ L ∨ k = i ∨ k = j ∨ mhas M k i = true ∨ mhas M k j = true
  | 0, _, k, hk => absurd hk (by omega)
  | n + 1, h, k, hk => by
    simp only [forced2, Bool.and_eq_true, Bool.or_eq_true] at h
    by_cases e : k = n
    · subst e
      rcases h.1 with (((h1 | h1) | h1) | h1) | h1
      · exact .inl (inL_iff.1 h1)
      · exact .inr (.inl (Nat.eq_of_beq_eq_true h1))
      · exact .inr (.inr (.inl (Nat.eq_of_beq_eq_true h1)))
      · exact .inr (.inr (.inr (.inl h1)))
      · exact .inr (.inr (.inr (.inr h1)))
    · exact forced2_spec h.2 k (by omega)

theorem forced3_spec {L : List Nat} {i j l : Nat} : ∀ {n : Nat}, forced3 M L i j l n = true → ∀ k, k < n → k ∈ L ∨ k = i ∨ k = j ∨ k = l ∨ mhas M k i = true ∨ mhas M k j = true ∨ mhas M k l = true
  | 0, _, k, hk => absurd hk (by omega)
  | n + 1, h, k, hk => by
    simp only [forced3, Bool.and_eq_true, Bool.or_eq_true] at h
    by_cases e : k = n
    · subst e
      rcases h.1 with (((((h1 | h1) | h1) | h1) | h1) | h1) | h1
      · exact .inl (inL_iff.1 h1)
      · exact .inr (.inl (Nat.eq_of_beq_eq_true h1))
      · exact .inr (.inr (.inl (Nat.eq_of_beq_eq_true h1)))
      · exact .inr (.inr (.inr (.inl (Nat.eq_of_beq_eq_true h1))))
      · exact .inr (.inr (.inr (.inr (.inl h1))))
      · exact .inr (.inr (.inr (.inr (.inr (.inl h1)))))
      · exact .inr (.inr (.inr (.inr (.inr (.inr h1)))))
    · exact forced3_spec h.2 k (by omega)

theorem allL_spec {L : List Nat} : ∀ {n : Nat}, allL L n = true → ∀ k, k < n → k ∈ L
  | 0, _, k, hk => absurd hk (by omega)
  | n + 1, h, k, hk => by
    simp only [allL, Bool.and_eq_true] at h
    by_cases e : k = n
    · subst e; exact inL_iff.1 h.1
    · exact allL_spec h.2 k (by omega)

theorem dropH_mem {i r : Nat} {h : World → Prop} : ∀ {H : Held}, (r, h) ∈ H → mhas M i r = false → (r, h) ∈ dropH M i H
  | [], hm, _ => by cases hm
  | (r', h') :: rs, hm, hno => by
    unfold dropH
    split
    · rename_i hy
      rcases List.mem_cons.1 hm with e | hm
      · simp only [Prod.mk.injEq] at e; rw [e.1, hy] at hno; cases hno
      · exact dropH_mem hm hno
    · rcases List.mem_cons.1 hm with e | hm
      · simp only [Prod.mk.injEq] at e
        obtain ⟨rfl, rfl⟩ := e
        exact List.mem_cons_self ..
      · exact List.mem_cons_of_mem _ (dropH_mem hm hno)

theorem heldD_spec {i : Nat} {w1 : World} {K : Prop} : ∀ {H : Held}, heldD M i w1 K H → K ∧ ∀ r h, (r, h) ∈ H → mhas M i r = false → h w1 ∧ (r, h) ∈ dropH M i H
  | [], hk => ⟨hk, fun r h hm => by cases hm⟩
  | (r, h) :: rs, hk => by
    unfold heldD at hk
    split at hk
    · rename_i hm
      obtain ⟨h1, h2⟩ := heldD_spec hk
      refine ⟨h1, fun r' h' hmem hno => ?_⟩
      rcases List.mem_cons.1 hmem with e | hmem
      · simp only [Prod.mk.injEq] at e; rw [e.1, hm] at hno; cases hno
      · have := h2 r' h' hmem hno
        refine ⟨this.1, ?_⟩
        unfold dropH; rw [hm]; exact this.2
    · rename_i hm
      obtain ⟨h1, h2⟩ := heldD_spec hk.2
      refine ⟨h1, fun r' h' hmem hno => ?_⟩
      unfold dropH; rw [hm]
      rcases List.mem_cons.1 hmem with e | hmem
      · simp only [Prod.mk.injEq] at e
        obtain ⟨rfl, rfl⟩ := e
        exact ⟨hk.1, List.mem_cons_self ..⟩
      · have := h2 r' h' hmem hno
        exact ⟨this.1, List.mem_cons_of_mem _ this.2⟩

/-- An operation that changes the world comes up. -/
theorem sim_exec (hP : AllCallable P) (hg : Good P ops M) {L : List Nat} {Ld : Array Bool} {pend : List Nat} {H : Held} {e : Env} {a a' : Act} {w : World} (s : Sim P N ops M L Ld pend H a a' w)
    (hr : Rep N a e) {i : Nat} {o : Oper} (ho : ops[i]? = some o) (hL : i ∉ L) (hrd : i ∈ Region.ready .any ops Ld) (hdepL : ∀ e ∈ o.after, Region.binds .any e = true → e.on ∈ L)
    {Q : Exit → Act → World → Prop} {K : Act → World → Prop} {D : Env → World → Prop} (hE : execD P N ops M i o H e w D)
    (hK : ∀ e1 a1 a1' w1, Rep N a1 e1 → Sim P N ops M (i :: L) (Ld.setIfInBounds i true) pend (dropH M i H) a1 a1' w1 → D e1 w1 → K a1' w1) : wpOp P ops Q i K a' w := by
  obtain ⟨hnu, o', ho', hd⟩ := (ready_iff s.size).1 hrd
  obtain rfl : o = o' := by rw [ho] at ho'; simpa using ho'
  have hlt : i < Ld.size := by rw [s.size]; exact (Array.getElem?_eq_some_iff.1 ho).1
  obtain ⟨hex, hwx⟩ := exec_same (ops := ops) (fun cs b => hg.nosel ho) (s.looks hg ho hd)
  -- the frames behind it
  have key : ∀ (v : Value) (w1 : World) (H' : Held) (e1 : Env), Rep N (a.put o.dst v) e1 →
      (∀ k h, k ∈ pend → (k, h) ∈ H → h w → h w1 ∧ (k, h) ∈ H') →
      Sim P N ops M (i :: L) (Ld.setIfInBounds i true) pend H' (a.put o.dst v) (a'.put o.dst v) w1 := by
    intro v w1 H' e1 hr1 hheld
    have older : ∀ k ok, ops[k]? = some ok → isV P ok = true → k ∈ pend → (∀ t ∈ ok.looksAt ops, (a.put o.dst v).tmps[t]? = a.tmps[t]?) ∧ (∀ dk, ok.dst = some dk → (a.put o.dst v).tmps[dk]? = a.tmps[dk]?) := by
      intro k ok hk hkv hkp
      have hks : k < ops.size := (Array.getElem?_eq_some_iff.1 hk).1
      have hkL : k ∈ L := (s.listed k hks).2 (.inr hkp)
      obtain ⟨dk, hdk, hp⟩ := hg.pair hk hkv ho
      simp only [okPair, Bool.and_eq_true, Bool.or_eq_true, Bool.not_eq_true'] at hp
      have hik : i ≠ k := fun e => hL (e ▸ hkL)
      cases hdst : o.dst with
      | none => exact ⟨fun t _ => rfl, fun t _ => rfl⟩
      | some d =>
      rw [hdst] at hp
      refine ⟨fun t ht => ?_, fun dk' hdk' => ?_⟩
      · simp only [Act.put]
        refine Array.getElem?_setIfInBounds_ne fun hdt => ?_
        subst hdt
        rcases hp.1.2 with (h | h) | h
        · exact hL (closed_before hg s.lclosed k ok i hk (s.lclosed k ok hk hkL) h)
        · simp only [Bool.not_eq_true'] at h
          rw [← Bool.not_eq_true, hasT_iff] at h
          exact h ht
        · exact s.apart k hkp (closed_before hg s.closed i o k ho hd h.2)
      · obtain rfl : dk = dk' := by rw [hdk] at hdk'; simpa using hdk'
        simp only [Act.put]
        refine Array.getElem?_setIfInBounds_ne fun hdt => ?_
        subst hdt
        rcases hp.1.1 with h | h
        · exact hik (Nat.eq_of_beq_eq_true h)
        · simp [isDst, hdst] at h
    refine ⟨by simp [s.size], closed_set s.size s.closed ho hd, ?_, fun k hk => ?_, fun k hk => ?_, fun k hk => ?_, ?_, hr1.size, ?_, fun t ht => ?_⟩
    · intro k ok hk hkL e he hb
      rcases List.mem_cons.1 hkL with rfl | hkL
      · obtain rfl : ok = o := by rw [ho] at hk; simpa using hk.symm
        exact List.mem_cons_of_mem _ (hdepL e he hb)
      · exact List.mem_cons_of_mem _ (s.lclosed k ok hk hkL e he hb)
    · simp only [List.mem_cons, s.listed k hk, up_set hlt]
      constructor
      · rintro (h | h | h)
        · exact .inl (.inl h)
        · exact .inl (.inr h)
        · exact .inr h
      · rintro ((h | h) | h)
        · exact .inl h
        · exact .inr (.inl h)
        · exact .inr (.inr h)
    · rw [up_set hlt]
      rintro (rfl | h)
      · have hks : k < ops.size := (Array.getElem?_eq_some_iff.1 ho).1
        exact hL ((s.listed k hks).2 (.inr hk))
      · exact s.apart k hk h
    · obtain ⟨ok, vk, hok, hkv, hah⟩ := s.ahead k hk
      obtain ⟨h1, h2⟩ := older k ok hok hkv hk
      obtain ⟨he, hw⟩ := exec_same (ops := ops) (fun cs b => hg.nosel hok) h1
      refine ⟨ok, vk, hok, hkv, ⟨rfl, fun dk hdk => by rw [h2 dk hdk]; exact hah.at_.2 dk hdk⟩, ?_⟩
      rw [hw, he]
      rcases hah.val with ⟨hwt, h, hrun, hh, hhH⟩ | hno
      · refine .inl ⟨hwt, h, hrun, ?_⟩
        rcases hhH with hall | hmem
        · exact ⟨hall w1, .inl hall⟩
        · have := hheld k h hk hmem hh
          exact ⟨this.1, .inr this.2⟩
      · exact .inr hno
    · cases hdst : o.dst <;> simp [Act.put, s.asize]
    · cases hdst : o.dst <;> simp [Act.put, s.adef]
    · cases hdst : o.dst with
      | none => exact s.frame t ht
      | some d =>
        simp only [Act.put]
        rw [Array.getElem?_setIfInBounds, Array.getElem?_setIfInBounds, s.asize, s.asize']
        split
        · rfl
        · exact s.frame t ht
  obtain ⟨e2, hr2, hh⟩ := guardD_sound hE hr
  unfold wpOp
  simp only [ho]
  rcases hh with ⟨hwt, hstep⟩ | ⟨hwf, hput⟩
  · rw [if_pos (by rw [hwx]; exact hwt)]
    have hgets := stepD_sound hP hstep hr2
    rw [← hex] at hgets
    refine .inl (Gets.wp hgets fun v w1 ⟨e3, hr3, hheld⟩ => ?_)
    obtain ⟨hD, hkeep⟩ := heldD_spec hheld
    refine hK e3 _ _ w1 hr3 (key v w1 (dropH M i H) e3 hr3 fun k h hkp hmem _ => ?_) hD
    refine hkeep k h hmem ?_
    cases hm : mhas M i k with
    | false => rfl
    | true => exact absurd (closed_before hg s.closed i o k ho hd hm) (s.apart k hkp)
  · rw [if_neg (by rw [hwx, hwf]; simp)]
    obtain ⟨e3, hr3, hD⟩ := putD_sound hput hr2 (fun b hb => by cases hb)
    refine hK e3 _ _ w hr3 (key undef w (dropH M i H) e3 hr3 fun k h hkp hmem hh => ⟨hh, dropH_mem hmem ?_⟩) hD
    cases hm : mhas M i k with
    | false => rfl
    | true => exact absurd (closed_before hg s.closed i o k ho hd hm) (s.apart k hkp)

theorem count_set {Ld : Array Bool} {j : Nat} (hj : j < Ld.size) (hn : ¬ Up Ld j) : (Ld.setIfInBounds j true).toList.count false + 1 = Ld.toList.count false := by
  obtain ⟨l⟩ := Ld
  have hj' : j < l.length := by simpa using hj
  have hn' : l[j] = false := by
    unfold Up at hn; simpa [hj'] using hn
  have hpos : 0 < l.count false := List.count_pos_iff.2 (hn' ▸ List.getElem_mem hj')
  rw [Array.toList_setIfInBounds, List.count_set hj']
  simp [hn']
  omega

/-- **One order serves all.** -/
theorem planD_sound (hP : AllCallable P) (hg : Good P ops M) {Q : Exit → Act → World → Prop} {K : Env → World → Prop} (hQ : ∀ a e w, Rep N a e → K e w → Q .normal a w) :
    ∀ (fuel : Nat) (Ld : Array Bool) (pl : Plan) (L : List Nat) (pend : List Nat) (H : Held) (e : Env) (a a' : Act) (w : World), Ld.toList.count false ≤ fuel →
      Sim P N ops M L Ld pend H a a' w → Rep N a e → planD P N ops M pl L H e w K → wpAny P .any ops Q fuel Ld a' w := by
  -- all has come up
  have fin : ∀ (pl : Plan) (Ld : Array Bool) (L : List Nat) (pend : List Nat) (H : Held) (e : Env) (a a' : Act) (w : World), Region.ready .any ops Ld = [] →
      Sim P N ops M L Ld pend H a a' w → Rep N a e → planD P N ops M pl L H e w K → Q .normal a' w := by
    intro pl Ld L pend H e a a' w hr s hrep hp
    have hall := all_up hg s.size hr
    have hpe : pend = [] := by
      cases pend with
      | nil => rfl
      | cons i rest =>
        obtain ⟨o, v, ho, _⟩ := s.ahead i (by simp)
        exact absurd (hall i (Array.getElem?_eq_some_iff.1 ho).1) (s.apart i (by simp))
    subst hpe
    have hrep' : Rep N a' e := by
      refine ⟨s.adef, s.asize, fun t x hx => ?_⟩
      rw [s.frame t (by simp)]
      exact hrep.ent t x hx
    have hL : ∀ k, k < ops.size → k ∈ L := fun k hk => (s.listed k hk).2 (.inl (hall k hk))
    cases pl with
    | done =>
      unfold planD at hp
      split at hp
      · exact hQ _ _ _ hrep' hp
      · exact hp.elim
    | take i p =>
      unfold planD at hp
      split at hp
      · exact hp.elim
      · rename_i o ho
        split at hp
        · exact hp.elim
        · rename_i hc
          simp only [Bool.and_eq_true, Bool.not_eq_true'] at hc
          rw [← Bool.not_eq_true, inL_iff] at hc
          exact absurd (hL i (Array.getElem?_eq_some_iff.1 ho).1) hc.1
    | both i p j q =>
      unfold planD at hp
      split at hp
      · rename_i o u ho hu
        split at hp
        · rename_i hc
          simp only [Bool.and_eq_true, Bool.not_eq_true'] at hc
          have h1 := hc.1.1.1.1.1.1
          rw [← Bool.not_eq_true, inL_iff] at h1
          exact absurd (hL i (Array.getElem?_eq_some_iff.1 ho).1) h1
        · exact hp.elim
      · exact hp.elim
    | three i p j q l r =>
      unfold planD at hp
      split at hp
      · rename_i o u z ho hu hz
        split at hp
        · rename_i hc
          simp only [Bool.and_eq_true, Bool.not_eq_true'] at hc
          have h1 := hc.1.1.1.1.1.1.1.1.1
          rw [← Bool.not_eq_true, inL_iff] at h1
          exact absurd (hL i (Array.getElem?_eq_some_iff.1 ho).1) h1
        · exact hp.elim
      · exact hp.elim
  intro fuel
  induction fuel with
  | zero =>
    intro Ld pl L pend H e a a' w hcnt s hrep hp
    have hr : Region.ready .any ops Ld = [] := by
      refine List.eq_nil_iff_forall_not_mem.2 fun j hj => ?_
      obtain ⟨hn, o, ho, _⟩ := (ready_iff s.size).1 hj
      have := count_set (Ld := Ld) (j := j) (by rw [s.size]; exact (Array.getElem?_eq_some_iff.1 ho).1) hn
      omega
    exact ⟨hr, fin pl Ld L pend H e a a' w hr s hrep hp⟩
  | succ fuel ih =>
    intro Ld pl L pend H e a a' w hcnt s hrep hp
    refine ⟨fun hr => fin pl Ld L pend H e a a' w hr s hrep hp, fun j hj => ?_⟩
    have hju := (ready_iff s.size).1 hj
    obtain ⟨hnu, oj, hoj, hdj⟩ := hju
    have hlt : j < Ld.size := by rw [s.size]; exact (Array.getElem?_eq_some_iff.1 hoj).1
    have hcnt' : (Ld.setIfInBounds j true).toList.count false ≤ fuel := by have := count_set hlt hnu; omega
    by_cases hjp : j ∈ pend
    · exact sim_pend hg s hjp hj fun a'' s' => ih _ pl L _ H e a a'' w hcnt' s' hrep hp
    · -- it has not been told of yet: the plan goes on till it comes to it
      have hjL : j ∉ L := fun h => by
        rcases (s.listed j (by rw [← s.size]; exact hlt)).1 h with h | h
        · exact hnu h
        · exact hjp h
      clear hjp
      -- what stands ahead of an operation that is forced has come up
      have hforce : ∀ (L : List Nat), (∀ k, k < ops.size → Up Ld k → k ∈ L) → ∀ i, i ∉ L → mhas M j i = true → False := fun L hL i hi hm => by
        have hi' := closed_before hg s.closed j oj i hoj hdj hm
        refine hi (hL i ?_ hi')
        have : i < Ld.size := by
          refine Classical.byContradiction fun h => ?_
          unfold Up at hi'
          simp [show ¬ i < Ld.size from h] at hi'
        rw [← s.size]; exact this
      induction pl generalizing L pend H e a with
      | done =>
        unfold planD at hp
        split at hp
        · rename_i hall
          exact absurd (allL_spec hall j (by rw [← s.size]; exact hlt)) hjL
        · exact hp.elim
      | take i p ihp =>
        unfold planD at hp
        split at hp
        · exact hp.elim
        · rename_i o ho
          split at hp
          · exact hp.elim
          · rename_i hc
            simp only [Bool.and_eq_true, Bool.not_eq_true'] at hc
            obtain ⟨hc1, hc2⟩ := hc
            rw [← Bool.not_eq_true, inL_iff] at hc1
            have hdepL : ∀ e ∈ o.after, Region.binds .any e = true → e.on ∈ L := fun e he hb => depsIn_spec hc2 e (by simpa using he) hb
            split at hp
            · -- taken ahead
              rename_i hv
              obtain ⟨e2, hr2, hh⟩ := guardD_sound hp hrep
              have go : ∀ (v : Value) (H' : Held) (e3 : Env), Rep N (a.put o.dst v) e3 → planD P N ops M p (i :: L) H' e3 w K →
                  Sim P N ops M (i :: L) Ld (i :: pend) H' (a.put o.dst v) a' w → wpOp P ops Q j (wpAny P .any ops Q fuel (Ld.setIfInBounds j true)) a' w := by
                intro v H' e3 hr3 hp3 s3
                by_cases hij : j = i
                · subst hij
                  exact sim_pend hg s3 (by simp) hj fun a'' s' => ih _ p _ _ H' e3 _ a'' w hcnt' s' hr3 hp3
                · exact ihp _ _ _ _ _ s3 hr3 hp3 (by simp [hij, hjL])
              have hdN : ∀ {v : Value} {k : Option Bool} {D : Env → Prop}, putD N o e2 v k D → ∀ d, o.dst = some d → d < N := by
                intro v k D hpd d hd
                unfold putD at hpd
                rw [hd] at hpd
                dsimp only at hpd
                split at hpd
                · rename_i hb; exact Nat.le_of_ble_eq_true hb
                · exact hpd.elim
              rcases hh with ⟨hwt, hop⟩ | ⟨hwf, hput⟩
              · obtain ⟨v, hk, hrun⟩ := opV_sound hr2.agree hop
                have hself := holdD_refl hop
                obtain ⟨e3, hr3, hp3⟩ := putD_sound hk hr2 (knOf_sound hr2.agree (hrun w hself))
                refine go v _ e3 hr3 hp3 (sim_take hg s ho hv hc1 hdepL (fun x hx => ?_) (.inl ⟨hwt, holdD P e2 o w, hrun, hself, ?_⟩) (hdN hk))
                · cases isLoad o <;> simp [hx]
                · cases hl : isLoad o with
                  | true => exact .inr (List.mem_cons_self ..)
                  | false =>
                    refine .inl fun w' => ?_
                    unfold holdD
                    unfold isLoad at hl
                    split
                    · rename_i h1; rw [h1] at hl; simp at hl
                    · trivial
              · obtain ⟨e3, hr3, hp3⟩ := putD_sound hput hr2 (fun b hb => by cases hb)
                exact go undef H e3 hr3 hp3 (sim_take hg s ho hv hc1 hdepL (fun x hx => hx) (.inr ⟨hwf, rfl⟩) (hdN hput))
            · -- it is the one that comes
              split at hp
              · rename_i hf
                have hij : j = i := by
                  rcases forced_spec hf j (by rw [← s.size]; exact hlt) with h | h | h
                  · exact absurd h hjL
                  · exact h
                  · exact (hforce L (fun k hk hu => (s.listed k hk).2 (.inl hu)) i hc1 h).elim
                subst hij
                exact sim_exec hP hg s hrep ho hc1 hj hdepL hp fun e1 a1 a1' w1 hr1 s1 hp1 => ih _ p _ _ _ e1 a1 a1' w1 hcnt' s1 hr1 hp1
              · exact hp.elim
      | both i p k q ihp ihq =>
        unfold planD at hp
        split at hp
        · rename_i o u ho hu
          split at hp
          · rename_i hc
            simp only [Bool.and_eq_true, Bool.not_eq_true'] at hc
            obtain ⟨⟨⟨⟨⟨⟨h1, h2⟩, h3⟩, h4⟩, h5⟩, h6⟩, hf⟩ := hc
            rw [← Bool.not_eq_true, inL_iff] at h1 h3
            have hdo : ∀ e ∈ o.after, Region.binds .any e = true → e.on ∈ L := fun e he hb => depsIn_spec h2 e (by simpa using he) hb
            have hdu : ∀ e ∈ u.after, Region.binds .any e = true → e.on ∈ L := fun e he hb => depsIn_spec h4 e (by simpa using he) hb
            have hL : ∀ k, k < ops.size → Up Ld k → k ∈ L := fun k hk hu => (s.listed k hk).2 (.inl hu)
            rcases forced2_spec hf j (by rw [← s.size]; exact hlt) with h | h | h | h | h
            · exact absurd h hjL
            · subst h
              exact sim_exec hP hg s hrep ho h1 hj hdo hp.1 fun e1 a1 a1' w1 hr1 s1 hp1 => ih _ p _ _ _ e1 a1 a1' w1 hcnt' s1 hr1 hp1
            · subst h
              exact sim_exec hP hg s hrep hu h3 hj hdu hp.2 fun e1 a1 a1' w1 hr1 s1 hp1 => ih _ q _ _ _ e1 a1 a1' w1 hcnt' s1 hr1 hp1
            · exact (hforce L hL i h1 h).elim
            · exact (hforce L hL k h3 h).elim
          · exact hp.elim
        · exact hp.elim
      | three i p k q l r ihp ihq ihr =>
        unfold planD at hp
        split at hp
        · rename_i o u z ho hu hz
          split at hp
          · rename_i hc
            simp only [Bool.and_eq_true, Bool.not_eq_true'] at hc
            obtain ⟨⟨⟨⟨⟨⟨⟨⟨⟨h1, h2⟩, h3⟩, h4⟩, h5⟩, h6⟩, _⟩, _⟩, _⟩, hf⟩ := hc
            rw [← Bool.not_eq_true, inL_iff] at h1 h3 h5
            have hdo : ∀ e ∈ o.after, Region.binds .any e = true → e.on ∈ L := fun e he hb => depsIn_spec h2 e (by simpa using he) hb
            have hdu : ∀ e ∈ u.after, Region.binds .any e = true → e.on ∈ L := fun e he hb => depsIn_spec h4 e (by simpa using he) hb
            have hdz : ∀ e ∈ z.after, Region.binds .any e = true → e.on ∈ L := fun e he hb => depsIn_spec h6 e (by simpa using he) hb
            have hL : ∀ k, k < ops.size → Up Ld k → k ∈ L := fun k hk hu => (s.listed k hk).2 (.inl hu)
            rcases forced3_spec hf j (by rw [← s.size]; exact hlt) with h | h | h | h | h | h | h
            · exact absurd h hjL
            · subst h
              exact sim_exec hP hg s hrep ho h1 hj hdo hp.1 fun e1 a1 a1' w1 hr1 s1 hp1 => ih _ p _ _ _ e1 a1 a1' w1 hcnt' s1 hr1 hp1
            · subst h
              exact sim_exec hP hg s hrep hu h3 hj hdu hp.2.1 fun e1 a1 a1' w1 hr1 s1 hp1 => ih _ q _ _ _ e1 a1 a1' w1 hcnt' s1 hr1 hp1
            · subst h
              exact sim_exec hP hg s hrep hz h5 hj hdz hp.2.2 fun e1 a1 a1' w1 hr1 s1 hp1 => ih _ r _ _ _ e1 a1 a1' w1 hcnt' s1 hr1 hp1
            · exact (hforce L hL i h1 h).elim
            · exact (hforce L hL k h3 h).elim
            · exact (hforce L hL l h5 h).elim
          · exact hp.elim
        · exact hp.elim

/-- A region that draws its order. -/
theorem region_draw (hP : AllCallable P) (hm : P.follows .mixedOrders = true) (hg : chkR P ops M = true) {Q : Exit → Act → World → Prop} {K : Env → World → Prop}
    (hQ : ∀ a e w, Rep N a e → K e w → Q .normal a w) {id : Nat} {pl : Plan} {e : Env} {a : Act} {w : World} (hr : Rep N a e)
    (hp : planD P N ops M pl [] [] e { w with drawn := w.drawn + 1 } K) : (Code.region id ops true).wp P Q a w := by
  refine wp_region_any hm (planD_sound hP (good_of_chk hg) hQ ops.size _ pl [] [] [] e a a _ (by simp) ?_ hr hp)
  refine ⟨by simp, fun k o hk hu => ?_, fun k o hk hu => ?_, fun k hk => ?_, fun k hk => ?_, fun i hi => ?_, hr.size, hr.size, hr.defers, fun t _ => rfl⟩
  · unfold Up at hu
    have hks : k < ops.size := (Array.getElem?_eq_some_iff.1 hk).1
    simp [hks] at hu
  · cases hu
  · simp [Up, hk]
  · cases hk
  · cases hi

end

end Go.D

/- Code, loops, functions: the reading, and its soundness. -/
namespace Go.D

inductive Ex where
  | normal
  | exit (id : Nat)
  | ret

abbrev Post := Ex → Env → World → Prop

structure Gen where
  loop : List Bool → Option (Post → Env → World → Prop)
  plan : Nat → Option (List Nat × Plan)

def eqPath : List Bool → List Bool → Bool
  | [], [] => true
  | true :: p, true :: q => eqPath p q
  | false :: p, false :: q => eqPath p q
  | _, _ => false

theorem eqPath_eq : ∀ {p q : List Bool}, eqPath p q = true → p = q
  | [], [], _ => rfl
  | true :: p, true :: q, h => by rw [eqPath_eq (p := p) (q := q) h]
  | false :: p, false :: q, h => by rw [eqPath_eq (p := p) (q := q) h]
  | [], true :: _, h => by simp [eqPath] at h
  | [], false :: _, h => by simp [eqPath] at h
  | true :: _, [], h => by simp [eqPath] at h
  | false :: _, [], h => by simp [eqPath] at h
  | true :: _, false :: _, h => by simp [eqPath] at h
  | false :: _, true :: _, h => by simp [eqPath] at h

def den (P : Program) (N : Nat) (G : Gen) : Code → List Bool → Post → Env → World → Prop
  | .skip, _, Q, e, w => Q .normal e w
  | .label _, _, Q, e, w => Q .normal e w
  | .seq x y, p, Q, e, w => den P N G x (false :: p) (fun ex e w => match ex with
      | .normal => den P N G y (true :: p) Q e w
      | .exit id => Q (.exit id) e w
      | .ret => Q .ret e w) e w
  | .cond c x y, p, Q, e, w => match evK e c with
      | some true => den P N G x (false :: p) Q e w
      | some false => den P N G y (true :: p) Q e w
      | none => onV (ev e c) fun
        | .bool b => If b (den P N G x (false :: p) Q e w) (den P N G y (true :: p) Q e w)
        | _ => False
  | .block id c, p, Q, e, w => den P N G c (false :: p) (fun ex e w => match ex with
      | .normal => Q .normal e w
      | .exit j => match Nat.beq j id with
        | true => Q .normal e w
        | false => Q (.exit j) e w
      | .ret => Q .ret e w) e w
  | .loop _, p, Q, e, w => match G.loop p with
      | some L => L Q e w
      | none => False
  | .region id ops draw, _, Q, e, w => match draw with
      | false => opsD P N ops ops.toList e w (Q .normal)
      | true => match G.plan id with
        | some (M, pl) => match chkR P ops M with
          | true => planD P N ops M pl [] [] e { w with drawn := w.drawn + 1 } (Q .normal)
          | false => False
        | none => False
  | .ret, _, Q, e, w => Q .ret e w
  | .exit id, _, Q, e, w => Q (.exit id) e w
  | _, _, _, _, _ => False

def child : Bool → Code → Option Code
  | false, .seq x _ => some x
  | true, .seq _ y => some y
  | false, .cond _ x _ => some x
  | true, .cond _ _ y => some y
  | false, .block _ c => some c
  | false, .loop c => some c
  | _, _ => none

def codeAt (body : Code) : List Bool → Option Code
  | [] => some body
  | b :: p => match codeAt body p with
    | some c => child b c
    | none => none

def liftQ (N : Nat) (Q : Post) : Exit → Act → World → Prop
  | .normal, a, w => ∃ e, Rep N a e ∧ Q .normal e w
  | .exit id, a, w => ∃ e, Rep N a e ∧ Q (.exit id) e w
  | .ret, a, w => ∃ e, Rep N a e ∧ Q .ret e w
  | _, _, _ => False

/-- The loops from a depth on are told rightly. -/
def LoopOkD (P : Program) (N : Nat) (G : Gen) (body : Code) (k : Nat) : Prop :=
  ∀ p L c, k ≤ p.length → G.loop p = some L → codeAt body p = some (.loop c) → ∀ Q e w a, Rep N a e → L Q e w → (Code.loop c).wp P (liftQ N Q) a w

def LoopOk (P : Program) (N : Nat) (G : Gen) (body : Code) : Prop := LoopOkD P N G body 0

theorem den_sound {P : Program} (hP : AllCallable P) (hm : P.follows .mixedOrders = true) {N : Nat} {G : Gen} {body : Code} {k : Nat} (hL : LoopOkD P N G body k) :
    ∀ (c : Code) (p : List Bool), codeAt body p = some c → k ≤ p.length → ∀ (Q : Post) (e : Env) (w : World) (a : Act), Rep N a e → den P N G c p Q e w → c.wp P (liftQ N Q) a w := by
  intro c
  induction c with
  | skip => exact fun p _ _ Q e w a hr h => wp_skip ⟨e, hr, h⟩
  | label l => exact fun p _ _ Q e w a hr h => wp_label ⟨e, hr, h⟩
  | seq x y ihx ihy =>
    intro p hp hlen Q e w a hr h
    have hx : codeAt body (false :: p) = some x := by simp [codeAt, hp, child]
    have hy : codeAt body (true :: p) = some y := by simp [codeAt, hp, child]
    refine wp_seq (wp_mono (ihx _ hx (by simp; omega) _ e w a hr h) fun ex a w hq => ?_)
    cases ex with
    | normal => obtain ⟨e, hr, h⟩ := hq; exact ihy _ hy (by simp; omega) _ e w a hr h
    | exit id => exact hq
    | ret => exact hq
    | goto l => exact hq.elim
    | panic c => exact hq.elim
    | outgrown => exact hq.elim
  | cond c x y ihx ihy =>
    intro p hp hlen Q e w a hr h
    have hx : codeAt body (false :: p) = some x := by simp [codeAt, hp, child]
    have hy : codeAt body (true :: p) = some y := by simp [codeAt, hp, child]
    unfold den at h
    split at h
    · rename_i hk
      exact wp_cond_true (hr.agree.kn _ _ hk) (ihx _ hx (by simp; omega) _ e w a hr h)
    · rename_i hk
      exact wp_cond_false (hr.agree.kn _ _ hk) (ihy _ hy (by simp; omega) _ e w a hr h)
    · obtain ⟨v, hv, h⟩ := onV_elim h
      split at h
      · exact wp_cond_split (hr.agree.val _ _ hv) (fun ht => ihx _ hx (by simp; omega) _ e w a hr (h.1 ht)) (fun ht => ihy _ hy (by simp; omega) _ e w a hr (h.2 ht))
      · exact h.elim
  | block id c ih =>
    intro p hp hlen Q e w a hr h
    have hc : codeAt body (false :: p) = some c := by simp [codeAt, hp, child]
    refine wp_block (wp_mono (ih _ hc (by simp; omega) _ e w a hr h) fun ex a w hq => ?_)
    cases ex with
    | normal => exact hq
    | exit j =>
      obtain ⟨e, hr, h⟩ := hq
      simp only [Exit.inBlock]
      dsimp only at h
      split at h
      · rename_i hb
        rw [if_pos (Nat.eq_of_beq_eq_true hb)]
        exact ⟨e, hr, h⟩
      · rename_i hb
        rw [if_neg (fun he => by subst he; simp at hb)]
        exact ⟨e, hr, h⟩
    | ret => exact hq
    | goto l => exact hq.elim
    | panic c => exact hq.elim
    | outgrown => exact hq.elim
  | loop c _ =>
    intro p hp hlen Q e w a hr h
    unfold den at h
    split at h
    · rename_i L hl
      exact hL p L c hlen hl hp Q e w a hr h
    · exact h.elim
  | region id ops draw =>
    intro p hp hlen Q e w a hr h
    have hQ : ∀ a e w, Rep N a e → Q .normal e w → liftQ N Q .normal a w := fun a e w hr h => ⟨e, hr, h⟩
    unfold den at h
    split at h
    · refine wp_region ?_
      have := opsD_sound hP hQ ops.toList 0 e a w (by simp) h hr
      rwa [Array.length_toList, ← List.range_eq_range'] at this
    · split at h
      · split at h
        · rename_i hc
          exact region_draw hP hm hc hQ hr h
        · exact h.elim
      · exact h.elim
  | ret => exact fun p _ _ Q e w a hr h => wp_ret ⟨e, hr, h⟩
  | exit id => exact fun p _ _ Q e w a hr h => wp_exit ⟨e, hr, h⟩
  | rangeFunc f ps x y _ _ => exact fun p _ _ Q e w a hr h => h.elim
  | scope c _ => exact fun p _ _ Q e w a hr h => h.elim
  | goto l => exact fun p _ _ Q e w a hr h => h.elim
  | refuse s => exact fun p _ _ Q e w a hr h => h.elim

/-! ## Loops -/

/-- A loop by an invariant with a measure that need not be read off the frame. -/
theorem wp_loop_ix {P : Program} {Q : Exit → Act → World → Prop} {c : Code} (I : Nat → Act → World → Prop)
    (round : ∀ n a w, I n a w → c.wp P (Exit.then (fun a' w' => ∃ m, m < n ∧ I m a' w') Q) a w) : ∀ n a w, I n a w → (Code.loop c).wp P Q a w := by
  intro n a w h₀ b k cs
  have key : ∀ n a w, I n a w → ∃ e a' w', Q e a' w' ∧ Arrives P (lone (b.at a (.code c :: .inLoop c :: k)) cs w) b k cs e a' w' := by
    intro n
    induction n using Nat.strongRecOn with
    | _ n ih =>
      intro a w hI
      obtain ⟨e, a₁, w₁, hq, harr⟩ := round n a w hI b (.inLoop c :: k) cs
      cases e with
      | normal =>
        obtain ⟨m, hlt, hI₁⟩ := hq
        obtain ⟨e₂, a₂, w₂, hq₂, harr₂⟩ := ih m hlt a₁ w₁ hI₁
        exact ⟨e₂, a₂, w₂, hq₂, .of_steps (Steps.trans harr (.one step_inLoop)) harr₂⟩
      | exit id => exact ⟨_, a₁, w₁, hq, .pass (x := .inLoop c) rfl (fun _ _ => .inl (by simp)) harr⟩
      | goto l => exact ⟨_, a₁, w₁, hq, .pass (x := .inLoop c) rfl (fun _ _ => .inl (by simp)) harr⟩
      | ret => exact ⟨_, a₁, w₁, hq, .pass (x := .inLoop c) rfl (fun _ _ => .inl (by simp)) harr⟩
      | panic ch => exact ⟨_, a₁, w₁, hq, .pass (x := .inLoop c) rfl (fun _ _ => .inl (by simp)) harr⟩
      | outgrown => exact ⟨_, a₁, w₁, hq, .pass (x := .inLoop c) rfl (fun _ _ => .inl (by simp)) harr⟩
  obtain ⟨e, a', w', hq, harr⟩ := key n a w h₀
  exact ⟨e, a', w', hq, .of_steps (.one step_loop) harr⟩

/-- What a round hands on: the slots at its end, at an exit, at a return. -/
def roundQ (Kn Kr : Env → World → Prop) (Kx : Nat → Env → World → Prop) : Post
  | .normal, e, w => Kn e w
  | .exit id, e, w => Kx id e w
  | .ret, e, w => Kr e w

theorem loop_rule_deep {P : Program} (hP : AllCallable P) (hm : P.follows .mixedOrders = true) {N : Nat} {G : Gen} {body : Code} {p : List Bool} (hL : LoopOkD P N G body (p.length + 1))
    {φ σ : Type} (lit : φ → σ → Env) (dec : Env → (φ → σ → Prop) → Prop) (hdec : ∀ e a K, Rep N a e → dec e K → ∃ f s, K f s ∧ Rep N a (lit f s))
    {c : Code} (hc : codeAt body p = some (.loop c)) (f : φ) (J : σ → World → Prop) (μ : σ → World → Nat) {Q : Post} {Kr : Env → World → Prop} {Kx : Nat → Env → World → Prop}
    (hr : ∀ e a w, Rep N a e → Kr e w → ∃ e', Rep N a e' ∧ Q .ret e' w)
    (hx : ∀ id e a w, Rep N a e → Kx id e w → ∃ e', Rep N a e' ∧ Q (.exit id) e' w)
    (hround : ∀ s w, J s w → den P N G c (false :: p) (roundQ (fun e w' => dec e fun f' s' => f' = f ∧ J s' w' ∧ μ s' w' < μ s w) Kr Kx) (lit f s) w) :
    ∀ s w a, J s w → Rep N a (lit f s) → (Code.loop c).wp P (liftQ N Q) a w := by
  intro s w a hj hrep
  have hcc : codeAt body (false :: p) = some c := by simp [codeAt, hc, child]
  refine wp_loop_ix (fun n a w => ∃ s, J s w ∧ Rep N a (lit f s) ∧ μ s w = n) ?_ (μ s w) a w ⟨s, hj, hrep, rfl⟩
  rintro n a w ⟨s, hj, hrep, rfl⟩
  refine wp_mono (den_sound hP hm hL c _ hcc (by simp) _ _ w a hrep (hround s w hj)) fun ex a w hq => ?_
  cases ex with
  | normal =>
    obtain ⟨e, hr', h⟩ := hq
    obtain ⟨f', s', ⟨rfl, hj', hlt⟩, hrep'⟩ := hdec e a _ hr' h
    exact ⟨_, hlt, s', hj', hrep', rfl⟩
  | exit id => obtain ⟨e, hr', h⟩ := hq; exact hx id e a w hr' h
  | ret => obtain ⟨e, hr', h⟩ := hq; exact hr e a w hr' h
  | goto l => exact hq.elim
  | panic c => exact hq.elim
  | outgrown => exact hq.elim

def height : Code → Nat
  | .seq a b => max (height a) (height b) + 1
  | .cond _ a b => max (height a) (height b) + 1
  | .block _ c => height c + 1
  | .loop c => height c + 1
  | _ => 0

theorem height_codeAt {body : Code} : ∀ {p : List Bool} {c : Code}, codeAt body p = some c → p.length + height c ≤ height body
  | [], c, h => by simp [codeAt] at h; simp [h]
  | b :: p, c, h => by
    unfold codeAt at h
    split at h
    · rename_i d hd
      have ih := height_codeAt hd
      have hc : height c + 1 ≤ height d := by
        unfold child at h
        split at h <;> simp at h <;> subst h <;> simp [height] <;> omega
      simp only [List.length_cons]; omega
    · cases h

/-- Loops are shown from the inmost on. -/
theorem loopOk_deep {P : Program} {N : Nat} {G : Gen} {body : Code}
    (h : ∀ p L c, G.loop p = some L → codeAt body p = some (.loop c) → LoopOkD P N G body (p.length + 1) → ∀ Q e w a, Rep N a e → L Q e w → (Code.loop c).wp P (liftQ N Q) a w) : LoopOk P N G body := by
  have key : ∀ n k, height body + 1 ≤ k + n → LoopOkD P N G body k := by
    intro n
    induction n with
    | zero =>
      intro k hk p L c hp _ hc
      have := height_codeAt hc
      omega
    | succ n ih =>
      intro k hk p L c hp hl hc
      exact h p L c hl hc (ih (p.length + 1) (by omega))
  exact key (height body + 1) 0 (by omega)

abbrev Spec := Post → Env → World → Prop

def lookL : List (List Bool × Spec) → List Bool → Option Spec
  | [], _ => none
  | (q, L) :: r, p => match eqPath p q with
    | true => some L
    | false => lookL r p

def OneOk (P : Program) (N : Nat) (G : Gen) (body : Code) (p : List Bool) (L : Spec) : Prop :=
  ∀ c, codeAt body p = some (.loop c) → LoopOkD P N G body (p.length + 1) → ∀ Q e w a, Rep N a e → L Q e w → (Code.loop c).wp P (liftQ N Q) a w

def AllOk (P : Program) (N : Nat) (G : Gen) (body : Code) : List (List Bool × Spec) → Prop
  | [] => True
  | (q, L) :: r => OneOk P N G body q L ∧ AllOk P N G body r

theorem allOk_look {P : Program} {N : Nat} {G : Gen} {body : Code} : ∀ {l : List (List Bool × Spec)}, AllOk P N G body l → ∀ {p : List Bool} {L : Spec}, lookL l p = some L → OneOk P N G body p L
  | [], _, p, L, h => by cases h
  | (q, L') :: r, ha, p, L, h => by
    unfold lookL at h
    split at h
    · rename_i hp
      obtain rfl : L' = L := by simpa using h
      rw [eqPath_eq hp]
      exact ha.1
    · exact allOk_look ha.2 h

theorem loopOk_list {P : Program} {N : Nat} {G : Gen} {body : Code} {l : List (List Bool × Spec)} (hl : G.loop = lookL l) (h : AllOk P N G body l) : LoopOk P N G body :=
  loopOk_deep fun _ _ c hL hc ih => allOk_look h (by rw [← hl]; exact hL) c hc ih

theorem loopOk_none {P : Program} {N : Nat} {G : Gen} {body : Code} (h : ∀ p, G.loop p = none) : LoopOk P N G body := by
  intro p L c _ hl
  rw [h] at hl; cases hl

/-- The code at a path (its root where there is none). -/
def sub (body : Code) (p : List Bool) : Code := match codeAt body p with
  | some c => c
  | none => body

theorem sub_of_codeAt {body c : Code} {p : List Bool} (h : codeAt body p = some (.loop c)) : sub body (false :: p) = c := by
  simp [sub, codeAt, h, child]

def codeOf (f : Func) : Code := match f.body with
  | some c => c
  | none => .skip

/-- A loop, told by its round: there are an invariant and a measure. -/
def LoopS {σ : Type} (B : σ → World → (σ → World → Prop) → Prop) (s : σ) (w : World) : Prop :=
  ∃ (J : σ → World → Prop) (μ : σ → World → Nat), J s w ∧ ∀ s w, J s w → B s w fun s' w' => J s' w' ∧ μ s' w' < μ s w

theorem find_mem : ∀ {l : Env} {t : Nat} {x : Entry}, find l t = some x → x ∈ l ∧ x.tmp = t
  | [], t, x, h => by simp [find] at h
  | y :: r, t, x, h => by
    unfold find at h
    split at h
    · rename_i hb
      obtain rfl : y = x := by simpa using h
      exact ⟨List.mem_cons_self .., Nat.eq_of_beq_eq_true hb⟩
    · have := find_mem h; exact ⟨List.mem_cons_of_mem _ this.1, this.2⟩

/-- A frame is told by less, too. -/
theorem rep_less {N : Nat} {a : Act} {e l : Env} (h : Rep N a e) (hl : ∀ x ∈ l, getV e x.tmp = some x.val ∧ x.kn = none) : Rep N a l where
  defers := h.defers
  size := h.size
  ent := by
    intro t x hx
    obtain ⟨hmem, rfl⟩ := find_mem hx
    obtain ⟨hv, hk⟩ := hl x hmem
    obtain ⟨y, hy, hyv⟩ := getV_find hv
    have := (h.ent _ y hy).1
    rw [hyv] at this
    exact ⟨this, fun b hb => by rw [hk] at hb; cases hb⟩

/-! ## Taking values apart -/

def asI (k : IntKind) (v : Value) (K : Int → Prop) : Prop := match v with | .int k' n => same k' k (K n) | _ => False
def asB (v : Value) (K : Bool → Prop) : Prop := match v with | .bool b => K b | _ => False
def asT (v : Value) (K : ByteArray → Prop) : Prop := match v with | .string s => K s | _ => False
def asP (v : Value) (K : Option Addr → Prop) : Prop := match v with | .pointer p => K p | _ => False
def asA (v : Value) (K : Addr → Prop) : Prop := match v with | .pointer (some a) => K a | _ => False
def asS (v : Value) (K : Option Addr → Nat → Nat → Prop) : Prop := match v with | .slice p n c => K p n c | _ => False
def asM (v : Value) (K : Option Nat → Prop) : Prop := match v with | .map r => K r | _ => False
def asV (v : Value) (K : Value → Prop) : Prop := K v
def asL (n : Nat) (v : Value) (K : List Value → Prop) : Prop := match v with | .agg cs => (match Nat.beq cs.size n with | true => K cs.toList | false => False) | _ => False
def asU (n : Nat) (v : Value) (K : List Value → Prop) : Prop := match v with | .tuple cs => (match Nat.beq cs.size n with | true => K cs.toList | false => False) | _ => False
def asNil (l : List Value) (K : Prop) : Prop := match l with | [] => K | _ => False
def asCons (l : List Value) (K : Value → List Value → Prop) : Prop := match l with | x :: r => K x r | _ => False

theorem asI_elim {k : IntKind} {v : Value} {K : Int → Prop} (h : asI k v K) : ∃ n, v = .int k n ∧ K n := by
  unfold asI at h; split at h
  · unfold same at h; split at h
    · rename_i hk; rw [kindEq_eq hk]; exact ⟨_, rfl, h⟩
    · exact h.elim
  · exact h.elim
theorem asB_elim {v : Value} {K : Bool → Prop} (h : asB v K) : ∃ n, v = .bool n ∧ K n := by unfold asB at h; split at h <;> first | exact ⟨_, rfl, h⟩ | exact h.elim
theorem asT_elim {v : Value} {K : ByteArray → Prop} (h : asT v K) : ∃ n, v = .string n ∧ K n := by unfold asT at h; split at h <;> first | exact ⟨_, rfl, h⟩ | exact h.elim
theorem asP_elim {v : Value} {K : Option Addr → Prop} (h : asP v K) : ∃ n, v = .pointer n ∧ K n := by unfold asP at h; split at h <;> first | exact ⟨_, rfl, h⟩ | exact h.elim
theorem asA_elim {v : Value} {K : Addr → Prop} (h : asA v K) : ∃ n, v = .pointer (some n) ∧ K n := by unfold asA at h; split at h <;> first | exact ⟨_, rfl, h⟩ | exact h.elim
theorem asS_elim {v : Value} {K : Option Addr → Nat → Nat → Prop} (h : asS v K) : ∃ p n c, v = .slice p n c ∧ K p n c := by unfold asS at h; split at h <;> first | exact ⟨_, _, _, rfl, h⟩ | exact h.elim
theorem asM_elim {v : Value} {K : Option Nat → Prop} (h : asM v K) : ∃ n, v = .map n ∧ K n := by unfold asM at h; split at h <;> first | exact ⟨_, rfl, h⟩ | exact h.elim
theorem asV_elim {v : Value} {K : Value → Prop} (h : asV v K) : ∃ n, v = n ∧ K n := ⟨v, rfl, h⟩
theorem asL_elim {m : Nat} {v : Value} {K : List Value → Prop} (h : asL m v K) : ∃ l : List Value, v = .agg l.toArray ∧ K l := by
  unfold asL at h; split at h
  · split at h
    · exact ⟨_, by simp, h⟩
    · exact h.elim
  · exact h.elim
theorem asU_elim {m : Nat} {v : Value} {K : List Value → Prop} (h : asU m v K) : ∃ l : List Value, v = .tuple l.toArray ∧ K l := by
  unfold asU at h; split at h
  · split at h
    · exact ⟨_, by simp, h⟩
    · exact h.elim
  · exact h.elim
theorem asNil_elim {l : List Value} {K : Prop} (h : asNil l K) : l = [] ∧ K := by unfold asNil at h; split at h <;> first | exact ⟨rfl, h⟩ | exact h.elim
theorem asCons_elim {l : List Value} {K : Value → List Value → Prop} (h : asCons l K) : ∃ x r, l = x :: r ∧ K x r := by unfold asCons at h; split at h <;> first | exact ⟨_, _, rfl, h⟩ | exact h.elim

def oI (e : Env) (t : Nat) (k : IntKind) (K : Int → Prop) : Prop := onV (getV e t) fun u => asI k u K
theorem oI_elim {e : Env} {t : Nat} {k : IntKind} {K : Int → Prop} (h : oI e t k K) : ∃ n, getV e t = some (.int k n) ∧ K n := by
  obtain ⟨u, g, h1⟩ := onV_elim h
  obtain ⟨n, rfl, h2⟩ := asI_elim h1
  exact ⟨n, g, h2⟩
def oB (e : Env) (t : Nat) (K : Bool → Prop) : Prop := onV (getV e t) fun u => asB u K
theorem oB_elim {e : Env} {t : Nat} {K : Bool → Prop} (h : oB e t K) : ∃ n, getV e t = some (.bool n) ∧ K n := by
  obtain ⟨u, g, h1⟩ := onV_elim h
  obtain ⟨n, rfl, h2⟩ := asB_elim h1
  exact ⟨n, g, h2⟩
def oT (e : Env) (t : Nat) (K : ByteArray → Prop) : Prop := onV (getV e t) fun u => asT u K
theorem oT_elim {e : Env} {t : Nat} {K : ByteArray → Prop} (h : oT e t K) : ∃ n, getV e t = some (.string n) ∧ K n := by
  obtain ⟨u, g, h1⟩ := onV_elim h
  obtain ⟨n, rfl, h2⟩ := asT_elim h1
  exact ⟨n, g, h2⟩
def oP (e : Env) (t : Nat) (K : Option Addr → Prop) : Prop := onV (getV e t) fun u => asP u K
theorem oP_elim {e : Env} {t : Nat} {K : Option Addr → Prop} (h : oP e t K) : ∃ n, getV e t = some (.pointer n) ∧ K n := by
  obtain ⟨u, g, h1⟩ := onV_elim h
  obtain ⟨n, rfl, h2⟩ := asP_elim h1
  exact ⟨n, g, h2⟩
def oA (e : Env) (t : Nat) (K : Addr → Prop) : Prop := onV (getV e t) fun u => asA u K
theorem oA_elim {e : Env} {t : Nat} {K : Addr → Prop} (h : oA e t K) : ∃ n, getV e t = some (.pointer (some n)) ∧ K n := by
  obtain ⟨u, g, h1⟩ := onV_elim h
  obtain ⟨n, rfl, h2⟩ := asA_elim h1
  exact ⟨n, g, h2⟩
def oM (e : Env) (t : Nat) (K : Option Nat → Prop) : Prop := onV (getV e t) fun u => asM u K
theorem oM_elim {e : Env} {t : Nat} {K : Option Nat → Prop} (h : oM e t K) : ∃ n, getV e t = some (.map n) ∧ K n := by
  obtain ⟨u, g, h1⟩ := onV_elim h
  obtain ⟨n, rfl, h2⟩ := asM_elim h1
  exact ⟨n, g, h2⟩
def oV (e : Env) (t : Nat) (K : Value → Prop) : Prop := onV (getV e t) fun u => asV u K
theorem oV_elim {e : Env} {t : Nat} {K : Value → Prop} (h : oV e t K) : ∃ n, getV e t = some (n) ∧ K n := by
  obtain ⟨u, g, h1⟩ := onV_elim h
  exact ⟨u, g, h1⟩
def oS (e : Env) (t : Nat) (K : Option Addr → Nat → Nat → Prop) : Prop := onV (getV e t) fun u => asS u K
theorem oS_elim {e : Env} {t : Nat} {K : Option Addr → Nat → Nat → Prop} (h : oS e t K) : ∃ p n c, getV e t = some (.slice p n c) ∧ K p n c := by
  obtain ⟨u, g, h1⟩ := onV_elim h
  obtain ⟨p, n, c, rfl, h2⟩ := asS_elim h1
  exact ⟨p, n, c, g, h2⟩

/-! ## Functions -/

def resL (P : Program) (e : Env) (w : World) : List ResultVar → (List Value → Prop) → Prop
  | [], K => K []
  | .tmp t :: r, K => onV (getV e t) fun v => resL P e w r fun vs => K (v :: vs)
  | .cell t ty :: r, K => onV (getV e t) fun
    | .pointer (some a) => Ld P w ty a fun v => resL P e w r fun vs => K (v :: vs)
    | _ => False

def postD (P : Program) (rs : List ResultVar) (R : Value → World → Prop) : Post
  | .exit _, _, _ => False
  | _, e, w => resL P e w rs fun vs => match vs with
    | [v] => R v w
    | vs => R (.tuple vs.toArray) w

def entry : List Value → Nat → Env
  | [], _ => []
  | v :: vs, n => ⟨n, v, none⟩ :: entry vs (n + 1)

theorem entry_mem : ∀ {vs : List Value} {n : Nat} {x : Entry}, x ∈ entry vs n → ∃ j, j < vs.length ∧ x.tmp = n + j ∧ some x.val = vs[j]? ∧ x.kn = none
  | [], n, x, h => by cases h
  | v :: vs, n, x, h => by
    unfold entry at h
    rcases List.mem_cons.1 h with rfl | h
    · exact ⟨0, by simp, rfl, rfl, rfl⟩
    · obtain ⟨j, h1, h2, h3, h4⟩ := entry_mem h
      exact ⟨j + 1, by simp [h1], by omega, by simpa using h3, h4⟩

theorem rep_entry {args : List Value} {N : Nat} (h : args.length ≤ N) :
    Rep N { tmps := args.toArray ++ Array.replicate (N - args.toArray.size) undef, defers := [] } (entry args 0) where
  defers := rfl
  size := by simp; omega
  ent := by
    intro t x hx
    obtain ⟨hmem, rfl⟩ := find_mem hx
    obtain ⟨j, hj, ht, hv, hk⟩ := entry_mem hmem
    refine ⟨?_, fun b hb => by rw [hk] at hb; cases hb⟩
    rw [ht, Nat.zero_add, hv]
    simp [Array.getElem?_append, hj]

theorem resL_sound {P : Program} {N : Nat} {e : Env} {a : Act} {w : World} (hr : Rep N a e) : ∀ {rs : List ResultVar} {K : List Value → Prop}, resL P e w rs K →
    ∃ vs, K vs ∧ vs.length = rs.length ∧ (rs.mapM fun (r : ResultVar) => (match r with
      | .tmp t => pure (a.tmps.getD t undef)
      | .cell ad t => do loadVar t (← asAddr (a.tmps.getD ad undef)) : Sem Value)).run P w = .ok vs w
  | [], K, h => ⟨[], h, rfl, rfl⟩
  | .tmp t :: r, K, h => by
    obtain ⟨v, hv, h⟩ := onV_elim h
    obtain ⟨vs, hk, hl, hrun⟩ := resL_sound hr h
    obtain ⟨x, hx, hxv⟩ := getV_find hv
    have h1 := (hr.ent t x hx).1
    rw [hxv] at h1
    refine ⟨v :: vs, hk, by simp [hl], ?_⟩
    simp only [List.mapM_cons, Sem.run_bind, Sem.run_pure, Result.andThen_ok]
    rw [hrun]
    simp [h1]
  | .cell t ty :: r, K, h => by
    obtain ⟨v, hv, h⟩ := onV_elim h
    split at h
    · rename_i ad
      obtain ⟨u, hk, hld⟩ := Ld_sound h
      obtain ⟨vs, hk, hl, hrun⟩ := resL_sound hr hk
      obtain ⟨x, hx, hxv⟩ := getV_find hv
      have h1 := (hr.ent t x hx).1
      rw [hxv] at h1
      refine ⟨u :: vs, hk, by simp [hl], ?_⟩
      have h2 : (loadVar ty ad).run P w = .ok u w := hld w (by split <;> intros <;> rfl)
      have h3 : (asAddr (a.tmps.getD t undef)).run P w = .ok ad w := by simp [asAddr, h1]
      simp only [List.mapM_cons, Sem.run_bind, h3, Result.andThen_ok, h2]
      rw [hrun]
      rfl
    · exact h.elim

theorem run_results {P : Program} {fn : Func} {N : Nat} {e : Env} {a : Act} {w : World} {R : Value → World → Prop} (hr : Rep N a e)
    (h : resL P e w fn.results.toList fun vs => match vs with
      | [v] => R v w
      | vs => R (.tuple vs.toArray) w) : ∃ v, (results fn a.tmps).run P w = .ok v w ∧ R v w := by
  obtain ⟨vs, hk, hl, hrun⟩ := resL_sound hr h
  have harr : (fn.results.mapM fun (r : ResultVar) => (match r with
      | .tmp t => pure (a.tmps.getD t undef)
      | .cell ad t => do loadVar t (← asAddr (a.tmps.getD ad undef)) : Sem Value)).run P w = .ok vs.toArray w := by
    obtain ⟨l, hl'⟩ : ∃ l, fn.results = List.toArray l := ⟨fn.results.toList, by simp⟩
    rw [hl'] at hrun ⊢
    simp only [List.mapM_toArray]
    simp only [Functor.map, Sem.run_bind', hrun, Result.andThen_ok]
    rfl
  unfold results
  simp only [Sem.run_bind]
  refine ⟨if h : vs.toArray.size = 1 then vs.toArray[0] else .tuple vs.toArray, ?_, ?_⟩
  · erw [harr]
    rfl
  · match vs, hk with
    | [], hk => simpa using hk
    | [v], hk => simpa using hk
    | v :: u :: r, hk => simpa using hk

theorem calls_of_den {P : Program} (hP : AllCallable P) (hm : P.follows .mixedOrders = true) {f : FuncId} {fn : Func} {c : Code} (hf : P.funcs[f]? = some fn) (hb : fn.body = some c)
    {G : Gen} (hL : LoopOk P fn.ntmps G c) {args : List Value} (hn : Nat.ble args.length fn.ntmps = true) {w : World} {R : Value → World → Prop}
    (h : den P fn.ntmps G c [] (postD P fn.results.toList R) (entry args 0) w) : Calls P f args.toArray w fun e w' => ∃ v, e = .returned v ∧ R v w' := by
  refine calls_of_wp hf hb (wp_mono (den_sound hP hm hL c [] rfl (Nat.le_refl 0) _ _ w _ (rep_entry (Nat.le_of_ble_eq_true hn)) h) fun ex a w hq => ?_)
  cases ex with
  | normal =>
    obtain ⟨e, hr, h⟩ := hq
    obtain ⟨v, hv, hR⟩ := run_results hr h
    exact ⟨hr.defers, v, hv, v, rfl, hR⟩
  | ret =>
    obtain ⟨e, hr, h⟩ := hq
    obtain ⟨v, hv, hR⟩ := run_results hr h
    exact ⟨hr.defers, v, hv, v, rfl, hR⟩
  | exit id => obtain ⟨e, hr, h⟩ := hq; exact h.elim
  | goto l => exact hq.elim
  | panic c => exact hq.elim
  | outgrown => exact hq.elim

/-! ## The formulas' words -/

def drw (w : World) : World := { w with drawn := w.drawn + 1 }

def BSl (P : Program) (t : TypeId) (len : Nat) (ps : List (Nat × Value)) (w : World) (K : Option Addr → Nat → Nat → World → Prop) : Prop :=
  Run P (Instr.buildSlice t len ps.toArray) w fun v w1 => ∃ p n c, v = .slice p n c ∧ K p n c w1
def MkSl (P : Program) (t : TypeId) (l c : Value) (w : World) (K : Option Addr → Nat → Nat → World → Prop) : Prop :=
  Run P (Instr.makeSlice t l c) w fun v w1 => ∃ p n c, v = .slice p n c ∧ K p n c w1
def App (P : Program) (ts : Array TypeId) (ty : TypeId) (vs : Array Value) (w : World) (K : Option Addr → Nat → Nat → World → Prop) : Prop :=
  Run P (Builtin.append_ ts ty vs) w fun v w1 => ∃ p n c, v = .slice p n c ∧ K p n c w1
def Cpy (P : Program) (ts : Array TypeId) (ty : TypeId) (vs : Array Value) (w : World) (K : Int → World → Prop) : Prop :=
  Run P (Builtin.copy_ ts ty vs) w fun v w1 => ∃ n, v = .int .i64 n ∧ K n w1
def MLen (P : Program) (ts : Array TypeId) (ty : TypeId) (vs : Array Value) (w : World) (K : Int → World → Prop) : Prop :=
  Run P (Builtin.len_ ts ty vs) w fun v w1 => ∃ n, v = .int .i64 n ∧ K n w1
def Clr (P : Program) (ts : Array TypeId) (ty : TypeId) (vs : Array Value) (w : World) (K : Value → World → Prop) : Prop := Run P (Builtin.clear_ ts ty vs) w K
def Del (P : Program) (ts : Array TypeId) (ty : TypeId) (vs : Array Value) (w : World) (K : Value → World → Prop) : Prop := Run P (Builtin.delete_ ts ty vs) w K
def MUp (P : Program) (t : TypeId) (m k v : Value) (w : World) (K : World → Prop) : Prop := Run P (Instr.mapUpdate t m k v) w fun _ w1 => K w1
def Rng (P : Program) (t : TypeId) (x : Value) (w : World) (K : Option Addr → World → Prop) : Prop := Run P (Instr.range t x) w fun v w1 => ∃ p, v = .pointer p ∧ K p w1
def AggEq (P : Program) (t : TypeId) (x y : Value) (K : Bool → Prop) : Prop := ∃ b, (∀ w, (Op.equal t x y).run P w = .ok b w) ∧ K b

end Go.D

/- The base, whole. -/
