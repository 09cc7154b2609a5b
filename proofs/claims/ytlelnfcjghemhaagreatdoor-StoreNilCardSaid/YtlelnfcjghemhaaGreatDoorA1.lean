/- An abstract evaluator of the model's code, written so that the kernel runs it fast. -/
import GoSem.Step
/-! An abstract evaluator of the model's code, written for the kernel: every step that runs often goes by a recursor. -/
namespace Go.AE
open Go
noncomputable section

/-! boxes that are opened once -/
inductive KF (α : Type) where
  | mk (f : α)
def KF.app {α β : Type} (k : KF α) (g : α → β) : β := KF.rec (motive := fun _ => β) g k
def KF.out {α : Type} (k : KF α) : α := KF.rec (motive := fun _ => α) (fun a => a) k

def ob {α β : Type} (x : Option α) (f : α → Option β) : Option β := Option.rec (motive := fun _ => Option β) none f x
def bi {α : Type} (b : Bool) (t e : α) : α := Bool.rec (motive := fun _ => α) e t b
/-- the number is worked out before it is handed on -/
def fN {β : Type} (n : Nat) (k : Nat → β) : β := Nat.rec (motive := fun _ => Unit → β) (fun _ => k 0) (fun m _ _ => k (Nat.succ m)) n ()

theorem fN_eq {β : Type} (n : Nat) (k : Nat → β) : fN n k = k n := by cases n <;> rfl
theorem ob_eq {α β : Type} {x : Option α} {f : α → Option β} {y : β} : ob x f = some y ↔ ∃ a, x = some a ∧ f a = some y := by
  cases x with
  | none => exact ⟨fun h => (by cases h), fun ⟨_, h, _⟩ => (by cases h)⟩
  | some a => exact ⟨fun h => ⟨a, rfl, h⟩, fun ⟨_, h, h'⟩ => by cases h; exact h'⟩
theorem bi_eq {α : Type} {b : Bool} {t e : Option α} {y : α} : bi b t e = some y ↔ (b = true ∧ t = some y) ∨ (b = false ∧ e = some y) := by
  cases b
  · exact ⟨fun h => .inr ⟨rfl, h⟩, fun h => h.elim (fun h => by cases h.1) (fun h => h.2)⟩
  · exact ⟨fun h => .inl ⟨rfl, h⟩, fun h => h.elim (fun h => h.2) (fun h => by cases h.1)⟩
theorem bi_if {α : Type} (b : Bool) (t e : α) : bi b t e = if b = true then t else e := by cases b <;> rfl

/-! trees of a fixed depth -/
structure P2 (α : Type) where
  l : α
  r : α
def NT (α : Type) : Nat → Type
  | 0 => α
  | k + 1 => P2 (NT α k)
def NT.fill {α : Type} (a : α) : (k : Nat) → NT α k
  | 0 => a
  | k + 1 => ⟨NT.fill a k, NT.fill a k⟩
/-- the place is known when the code is laid out -/
def tgetC {α : Type} : (k : Nat) → Nat → KF (NT α k → α)
  | 0, _ => .mk fun t => t
  | k + 1, n => KF.rec (motive := fun _ => KF (P2 (NT α k) → α)) (fun g => bi (Nat.beq (Nat.mod n 2) 0) (.mk fun t => g (P2.l t)) (.mk fun t => g (P2.r t))) (tgetC k (Nat.div n 2))
def tsetC {α : Type} : (k : Nat) → Nat → KF (NT α k → α → NT α k)
  | 0, _ => .mk fun _ v => v
  | k + 1, n => KF.rec (motive := fun _ => KF (P2 (NT α k) → α → P2 (NT α k))) (fun g => bi (Nat.beq (Nat.mod n 2) 0) (.mk fun t v => P2.mk (g (P2.l t) v) (P2.r t)) (.mk fun t v => P2.mk (P2.l t) (g (P2.r t) v))) (tsetC k (Nat.div n 2))
/-- the place is known when the code runs -/
def ngetC {α : Type} : (k : Nat) → KF (NT α k → Nat → α)
  | 0 => .mk fun t _ => t
  | k + 1 => KF.rec (motive := fun _ => KF (P2 (NT α k) → Nat → α)) (fun g => .mk fun t n => bi (Nat.beq (Nat.mod n 2) 0) (g (P2.l t) (Nat.div n 2)) (g (P2.r t) (Nat.div n 2))) (ngetC k)
def nsetC {α : Type} : (k : Nat) → KF (NT α k → Nat → α → NT α k)
  | 0 => .mk fun _ _ v => v
  | k + 1 => KF.rec (motive := fun _ => KF (P2 (NT α k) → Nat → α → P2 (NT α k))) (fun g => .mk fun t n v => bi (Nat.beq (Nat.mod n 2) 0) (P2.mk (g (P2.l t) (Nat.div n 2) v) (P2.r t)) (P2.mk (P2.l t) (g (P2.r t) (Nat.div n 2) v))) (nsetC k)

/-! values; 'nil', 'rep', 'cat' are rows of values -/
inductive V where
  | nat (k : IntKind) (n : Nat)
  | neg (k : IntKind) (n : Nat)
  | bool (b : Bool)
  | str (s : List Nat)
  | nilv (t : Nat)
  | ptr (id off : Nat)
  | gptr (g off : Nat)
  | sl (id off len cap : Nat) (x : Option Nat)
  | sle
  | map (id : Nat)
  | func (f : Nat) (a b : V)
  | agg (r : V)
  | tup (r : V)
  | opq (i : Nat)
  | nil
  | rep (n : Nat) (v : V)
  | cat (nl n : Nat) (l r : V)

section views
variable {β : Type}
def onNat (v : V) (f : IntKind → Nat → Option β) : Option β :=
  V.rec (motive := fun _ => Option β) f (fun _ _ => none) (fun _ => none) (fun _ => none) (fun _ => none) (fun _ _ => none) (fun _ _ => none) (fun _ _ _ _ _ => none)
    none (fun _ => none) (fun _ _ _ _ _ => none) (fun _ _ => none) (fun _ _ => none) (fun _ => none) none (fun _ _ _ => none) (fun _ _ _ _ _ _ => none) v
def onNum (v : V) (f g : IntKind → Nat → Option β) : Option β :=
  V.rec (motive := fun _ => Option β) f g (fun _ => none) (fun _ => none) (fun _ => none) (fun _ _ => none) (fun _ _ => none) (fun _ _ _ _ _ => none)
    none (fun _ => none) (fun _ _ _ _ _ => none) (fun _ _ => none) (fun _ _ => none) (fun _ => none) none (fun _ _ _ => none) (fun _ _ _ _ _ _ => none) v
def onBool (v : V) (f : Bool → Option β) : Option β :=
  V.rec (motive := fun _ => Option β) (fun _ _ => none) (fun _ _ => none) f (fun _ => none) (fun _ => none) (fun _ _ => none) (fun _ _ => none) (fun _ _ _ _ _ => none)
    none (fun _ => none) (fun _ _ _ _ _ => none) (fun _ _ => none) (fun _ _ => none) (fun _ => none) none (fun _ _ _ => none) (fun _ _ _ _ _ _ => none) v
def onStr (v : V) (f : List Nat → Option β) : Option β :=
  V.rec (motive := fun _ => Option β) (fun _ _ => none) (fun _ _ => none) (fun _ => none) f (fun _ => none) (fun _ _ => none) (fun _ _ => none) (fun _ _ _ _ _ => none)
    none (fun _ => none) (fun _ _ _ _ _ => none) (fun _ _ => none) (fun _ _ => none) (fun _ => none) none (fun _ _ _ => none) (fun _ _ _ _ _ _ => none) v
def onPtr (v : V) (f : Nat → Nat → Option β) : Option β :=
  V.rec (motive := fun _ => Option β) (fun _ _ => none) (fun _ _ => none) (fun _ => none) (fun _ => none) (fun _ => none) f (fun _ _ => none) (fun _ _ _ _ _ => none)
    none (fun _ => none) (fun _ _ _ _ _ => none) (fun _ _ => none) (fun _ _ => none) (fun _ => none) none (fun _ _ _ => none) (fun _ _ _ _ _ _ => none) v
/-- a pointer into a block, or to a variable of the package's own -/
def onPtrs (v : V) (f g : Nat → Nat → Option β) : Option β :=
  V.rec (motive := fun _ => Option β) (fun _ _ => none) (fun _ _ => none) (fun _ => none) (fun _ => none) (fun _ => none) f g (fun _ _ _ _ _ => none)
    none (fun _ => none) (fun _ _ _ _ _ => none) (fun _ _ => none) (fun _ _ => none) (fun _ => none) none (fun _ _ _ => none) (fun _ _ _ _ _ _ => none) v
def onMap (v : V) (e : Option β) (f : Nat → Option β) : Option β :=
  V.rec (motive := fun _ => Option β) (fun _ _ => none) (fun _ _ => none) (fun _ => none) (fun _ => none) (fun t => bi (Nat.beq t 2) e none) (fun _ _ => none) (fun _ _ => none) (fun _ _ _ _ _ => none)
    none f (fun _ _ _ _ _ => none) (fun _ _ => none) (fun _ _ => none) (fun _ => none) none (fun _ _ _ => none) (fun _ _ _ _ _ _ => none) v
/-- a slice: none; an empty one anywhere; one with a place -/
def onSl (v : V) (z e : Option β) (f : Nat → Nat → Nat → Nat → Option Nat → Option β) : Option β :=
  V.rec (motive := fun _ => Option β) (fun _ _ => none) (fun _ _ => none) (fun _ => none) (fun _ => none) (fun t => bi (Nat.beq t 1) z none) (fun _ _ => none) (fun _ _ => none) f
    e (fun _ => none) (fun _ _ _ _ _ => none) (fun _ _ => none) (fun _ _ => none) (fun _ => none) none (fun _ _ _ => none) (fun _ _ _ _ _ _ => none) v
/-- a slice or a string -/
def onSeq (v : V) (s : List Nat → Option β) (z e : Option β) (f : Nat → Nat → Nat → Nat → Option Nat → Option β) : Option β :=
  V.rec (motive := fun _ => Option β) (fun _ _ => none) (fun _ _ => none) (fun _ => none) s (fun t => bi (Nat.beq t 1) z none) (fun _ _ => none) (fun _ _ => none) f
    e (fun _ => none) (fun _ _ _ _ _ => none) (fun _ _ => none) (fun _ _ => none) (fun _ => none) none (fun _ _ _ => none) (fun _ _ _ _ _ _ => none) v
def onFunc (v : V) (f : Nat → V → V → Option β) : Option β :=
  V.rec (motive := fun _ => Option β) (fun _ _ => none) (fun _ _ => none) (fun _ => none) (fun _ => none) (fun _ => none) (fun _ _ => none) (fun _ _ => none) (fun _ _ _ _ _ => none)
    none (fun _ => none) (fun n a b _ _ => f n a b) (fun _ _ => none) (fun _ _ => none) (fun _ => none) none (fun _ _ _ => none) (fun _ _ _ _ _ _ => none) v
def onAgg (v : V) (f : V → Option β) : Option β :=
  V.rec (motive := fun _ => Option β) (fun _ _ => none) (fun _ _ => none) (fun _ => none) (fun _ => none) (fun _ => none) (fun _ _ => none) (fun _ _ => none) (fun _ _ _ _ _ => none)
    none (fun _ => none) (fun _ _ _ _ _ => none) (fun r _ => f r) (fun _ _ => none) (fun _ => none) none (fun _ _ _ => none) (fun _ _ _ _ _ _ => none) v
def onTup (v : V) (f : V → Option β) : Option β :=
  V.rec (motive := fun _ => Option β) (fun _ _ => none) (fun _ _ => none) (fun _ => none) (fun _ => none) (fun _ => none) (fun _ _ => none) (fun _ _ => none) (fun _ _ _ _ _ => none)
    none (fun _ => none) (fun _ _ _ _ _ => none) (fun _ _ => none) (fun r _ => f r) (fun _ => none) none (fun _ _ _ => none) (fun _ _ _ _ _ _ => none) v
def onOpq (v : V) (f : Nat → Option β) : Option β :=
  V.rec (motive := fun _ => Option β) (fun _ _ => none) (fun _ _ => none) (fun _ => none) (fun _ => none) (fun _ => none) (fun _ _ => none) (fun _ _ => none) (fun _ _ _ _ _ => none)
    none (fun _ => none) (fun _ _ _ _ _ => none) (fun _ _ => none) (fun _ _ => none) f none (fun _ _ _ => none) (fun _ _ _ _ _ _ => none) v
/-- is it nil (of what kind), or surely not? -/
def onNil (v : V) (y n : Option β) : Option β :=
  V.rec (motive := fun _ => Option β) (fun _ _ => none) (fun _ _ => none) (fun _ => none) (fun _ => none) (fun _ => y) (fun _ _ => n) (fun _ _ => n) (fun _ _ _ _ _ => n)
    none (fun _ => n) (fun _ _ _ _ _ => n) (fun _ _ => none) (fun _ _ => none) (fun _ => none) none (fun _ _ _ => none) (fun _ _ _ _ _ _ => none) v
end views

/-- a value's cells, as a row -/
def V.cells (v : V) : V :=
  V.rec (motive := fun _ => V) (fun _ _ => v) (fun _ _ => v) (fun _ => v) (fun _ => v) (fun _ => v) (fun _ _ => v) (fun _ _ => v) (fun _ _ _ _ _ => v)
    v (fun _ => v) (fun _ _ _ _ _ => v) (fun r _ => r) (fun _ _ => v) (fun _ => v) v (fun _ _ _ => v) (fun _ _ _ _ _ _ => v) v
/-- how many a row has -/
def V.size (v : V) : Nat :=
  V.rec (motive := fun _ => Nat) (fun _ _ => 1) (fun _ _ => 1) (fun _ => 1) (fun _ => 1) (fun _ => 1) (fun _ _ => 1) (fun _ _ => 1) (fun _ _ _ _ _ => 1)
    1 (fun _ => 1) (fun _ _ _ _ _ => 1) (fun _ _ => 1) (fun _ _ => 1) (fun _ => 1) 0 (fun n _ _ => n) (fun _ n _ _ _ _ => n) v

def V.mk (l r : V) : V := bi (Nat.beq l.size 0) r (bi (Nat.beq r.size 0) l (fN l.size fun a => fN (Nat.add a r.size) fun n => .cat a n l r))
def V.mkRep (n : Nat) (v : V) : V := bi (Nat.beq n 0) .nil (bi (Nat.beq n 1) v (.rep n v))

/-- the i-th of a row -/
def V.get (v : V) : Nat → Option V :=
  let one : V → Nat → Option V := fun v i => bi (Nat.beq i 0) (some v) none
  V.rec (motive := fun _ => Nat → Option V) (fun k n => one (.nat k n)) (fun k n => one (.neg k n)) (fun b => one (.bool b)) (fun s => one (.str s)) (fun t => one (.nilv t)) (fun a b => one (.ptr a b)) (fun a b => one (.gptr a b))
    (fun a b c d x => one (.sl a b c d x)) (one .sle) (fun i => one (.map i)) (fun f a b _ _ => one (.func f a b)) (fun r _ => one (.agg r)) (fun r _ => one (.tup r)) (fun i => one (.opq i))
    (fun _ => none) (fun n u _ i => bi (Nat.ble (Nat.succ i) n) (some u) none) (fun nl _ _ _ il ir i => bi (Nat.ble (Nat.succ i) nl) (il i) (ir (Nat.sub i nl))) v

/-- the part of a row from off on, of length len -/
def V.ext (v : V) : Nat → Nat → Option V :=
  let one : V → Nat → Nat → Option V := fun v off len => bi (Nat.beq len 0) (some .nil) (bi (Nat.beq off 0) (bi (Nat.beq len 1) (some v) none) none)
  V.rec (motive := fun _ => Nat → Nat → Option V) (fun k n => one (.nat k n)) (fun k n => one (.neg k n)) (fun b => one (.bool b)) (fun s => one (.str s)) (fun t => one (.nilv t)) (fun a b => one (.ptr a b)) (fun a b => one (.gptr a b))
    (fun a b c d x => one (.sl a b c d x)) (one .sle) (fun i => one (.map i)) (fun f a b _ _ => one (.func f a b)) (fun r _ => one (.agg r)) (fun r _ => one (.tup r)) (fun i => one (.opq i))
    (fun _ len => bi (Nat.beq len 0) (some .nil) none)
    (fun n u _ off len => bi (Nat.beq len 0) (some .nil) (bi (Nat.ble (Nat.add off len) n) (fN len fun len => some (V.mkRep len u)) none))
    (fun nl n l r il ir off len => bi (Nat.beq len 0) (some .nil)
      (bi (Nat.beq off 0) (bi (Nat.beq len n) (some (.cat nl n l r)) (bi (Nat.ble len nl) (il 0 len) (ob (il 0 nl) fun a => ob (ir 0 (Nat.sub len nl)) fun b => some (V.mk a b))))
        (bi (Nat.ble (Nat.add off len) nl) (il off len)
          (bi (Nat.ble nl off) (ir (Nat.sub off nl) len)
            (ob (il off (Nat.sub nl off)) fun a => ob (ir 0 (Nat.sub len (Nat.sub nl off))) fun b => some (V.mk a b)))))) v

/-- a repetition with x (of length m) put in at off; halved first -/
def V.updRep (u x : V) (m : Nat) (f : Nat) : Nat → Nat → V :=
  let here : Nat → Nat → V := fun n off => V.mk (V.mkRep off u) (V.mk x (V.mkRep (Nat.sub n (Nat.add off m)) u))
  Nat.rec (motive := fun _ => Nat → Nat → V) here (fun _ ih n off =>
    bi (Nat.ble n (Nat.mul 2 m)) (here n off)
      (fN (Nat.mul (Nat.div (Nat.div n m) 2) m) fun h =>
        bi (Nat.ble (Nat.add off m) h) (V.mk (ih h off) (V.mkRep (Nat.sub n h) u))
          (bi (Nat.ble h off) (V.mk (V.mkRep h u) (ih (Nat.sub n h) (Nat.sub off h))) (here n off)))) f

/-- x (of length m) is put in at off -/
def V.upd (v : V) : Nat → V → Nat → Option V :=
  let one : V → Nat → V → Nat → Option V := fun v off x m => bi (Nat.beq m 0) (some v) (bi (Nat.beq off 0) (bi (Nat.beq m 1) (some x) none) none)
  V.rec (motive := fun _ => Nat → V → Nat → Option V) (fun k n => one (.nat k n)) (fun k n => one (.neg k n)) (fun b => one (.bool b)) (fun s => one (.str s)) (fun t => one (.nilv t)) (fun a b => one (.ptr a b)) (fun a b => one (.gptr a b))
    (fun a b c d x => one (.sl a b c d x)) (one .sle) (fun i => one (.map i)) (fun f a b _ _ => one (.func f a b)) (fun r _ => one (.agg r)) (fun r _ => one (.tup r)) (fun i => one (.opq i))
    (fun _ _ m => bi (Nat.beq m 0) (some .nil) none)
    (fun n u _ off x m => bi (Nat.beq m 0) (some (.rep n u)) (bi (Nat.ble (Nat.add off m) n) (some (V.updRep u x m 40 n off)) none))
    (fun nl n l r il ir off x m => bi (Nat.beq m 0) (some (.cat nl n l r)) (bi (Nat.beq m n) (bi (Nat.beq off 0) (some x) none)
      (bi (Nat.ble (Nat.add off m) nl) (ob (il off x m) fun l' => some (.cat nl n l' r))
        (bi (Nat.ble nl off) (ob (ir (Nat.sub off nl) x m) fun r' => some (.cat nl n l r'))
          (fN (Nat.sub nl off) fun k => ob (x.ext 0 k) fun a => ob (x.ext k (Nat.sub m k)) fun b => ob (il off a k) fun l' => ob (ir 0 b (Nat.sub m k)) fun r' => some (.cat nl n l' r')))))) v

/-- rows out of lists of constants -/
def V.ofList : List V → V := List.rec (motive := fun _ => V) .nil (fun v _ ih => V.mk v ih)

/-! entries of maps, blocks, the heap -/
inductive Es where
  | nil
  | cons (k v : V) (s : Nat) (tl : Es)
inductive NL where
  | nil
  | cons (n : Nat) (tl : NL)

inductive Blk where
  | cells (e : Nat) (r : V) (x : Option Nat)
  | map (es : Es) (ck : Nat)
  | iter (m : Nat) (since : Nat) (seen : NL) (stepped : Nat)
  | iter0
  /-- like 'cells', in some order -/
  | bag (e : Nat) (r : V) (x : Option Nat)

def onCells {β : Type} (b : Option Blk) (f : Nat → V → Option Nat → Option β) : Option β :=
  Option.rec (motive := fun _ => Option β) none (fun b => Blk.rec (motive := fun _ => Option β) f (fun _ _ => none) (fun _ _ _ _ => none) none (fun _ _ _ => none) b) b
def onMapB {β : Type} (b : Option Blk) (f : Es → Nat → Option β) : Option β :=
  Option.rec (motive := fun _ => Option β) none (fun b => Blk.rec (motive := fun _ => Option β) (fun _ _ _ => none) f (fun _ _ _ _ => none) none (fun _ _ _ => none) b) b
def onBag {β : Type} (b : Option Blk) (f : Nat → V → Option Nat → Option β) : Option β :=
  Option.rec (motive := fun _ => Option β) none (fun b => Blk.rec (motive := fun _ => Option β) (fun _ _ _ => none) (fun _ _ => none) (fun _ _ _ _ => none) none f b) b
def onIter {β : Type} (b : Option Blk) (z : Option β) (f : Nat → Nat → NL → Nat → Option β) : Option β :=
  Option.rec (motive := fun _ => Option β) none (fun b => Blk.rec (motive := fun _ => Option β) (fun _ _ _ => none) (fun _ _ => none) f z (fun _ _ _ => none) b) b

def hDepth : Nat := 14
def hMax : Nat := 16384
abbrev HM := NT (Option Blk) 14
structure HS where
  m : HM
  c : Nat
def HS.empty : HS := ⟨NT.fill none 14, 0⟩

def HS.get (h : HS) (id : Nat) : Option Blk := KF.rec (motive := fun _ => Option Blk) (fun g => g h.m id) (ngetC (α := Option Blk) 14)
def HS.set (h : HS) (id : Nat) (b : Option Blk) : HS := HS.mk (KF.rec (motive := fun _ => HM) (fun g => g h.m id b) (nsetC (α := Option Blk) 14)) h.c

structure VH where
  v : V
  h : HS

/-- a new block; its number is handed on -/
def HS.new (h : HS) (b : Blk) (f : Nat → V) : Option VH :=
  fN h.c fun c => bi (Nat.ble (Nat.succ c) 16384) (some (VH.mk (f c) (HS.mk (KF.rec (motive := fun _ => HM) (fun g => g h.m c (some b)) (nsetC (α := Option Blk) 14)) (Nat.succ c)))) none

/-! numbers -/
def half (k : IntKind) : Nat := IntKind.rec (motive := fun _ => Nat) 128 32768 2147483648 9223372036854775808 256 65536 4294967296 18446744073709551616 k
def kNum (k : IntKind) : Nat := IntKind.rec (motive := fun _ => Nat) 0 1 2 3 4 5 6 7 k
def kEq (j k : IntKind) : Bool := Nat.beq (kNum j) (kNum k)
def ofInt (k : IntKind) (n : Int) : V := Int.rec (motive := fun _ => V) (fun n => fN n fun n => .nat k n) (fun n => fN n fun n => .neg k n) n
def wrapI (k : IntKind) (n : Int) : Option V := some (ofInt k (k.wrap n))
def natR (k : IntKind) (n : Nat) : Option V := fN n fun n => bi (Nat.ble (Nat.succ n) (half k)) (some (.nat k n)) (wrapI k (.ofNat n))

/-- the number in a value -/
def toI (v : V) (f : IntKind → Int → Option V) : Option V := onNum v (fun k n => f k (.ofNat n)) (fun k n => f k (.negSucc n))

def slowArith (op : BinOp) (k : IntKind) (x y : Int) : Option V :=
  match op with
  | .add => wrapI k (x + y)
  | .sub => wrapI k (x - y)
  | .mul => wrapI k (x * y)
  | .quo => if y = 0 then none else wrapI k (x.tdiv y)
  | .rem => if y = 0 then none else some (ofInt k (x.tmod y))
  | .and => wrapI k ((BitVec.ofInt k.bits x &&& BitVec.ofInt k.bits y).toNat)
  | .or => wrapI k ((BitVec.ofInt k.bits x ||| BitVec.ofInt k.bits y).toNat)
  | .xor => wrapI k ((BitVec.ofInt k.bits x ^^^ BitVec.ofInt k.bits y).toNat)
  | .andNot => wrapI k ((BitVec.ofInt k.bits x &&& ~~~ BitVec.ofInt k.bits y).toNat)
  | .eql => some (.bool (x == y))
  | .neq => some (.bool (x != y))
  | .lss => some (.bool (x < y))
  | .leq => some (.bool (x ≤ y))
  | .gtr => some (.bool (x > y))
  | .geq => some (.bool (x ≥ y))
  | _ => none

/-- an operation on two numbers that are not below zero: laid out ahead -/
def fastArith (op : BinOp) : KF (IntKind → Nat → Nat → Option V) :=
  match op with
  | .add => .mk fun k a b => natR k (Nat.add a b)
  | .sub => .mk fun k a b => bi (Nat.ble b a) (natR k (Nat.sub a b)) (wrapI k (.ofNat a - .ofNat b))
  | .mul => .mk fun k a b => natR k (Nat.mul a b)
  | .quo => .mk fun k a b => bi (Nat.beq b 0) none (natR k (Nat.div a b))
  | .rem => .mk fun k a b => bi (Nat.beq b 0) none (fN (Nat.mod a b) fun n => some (.nat k n))
  | .and => .mk fun k a b => bi (Nat.ble (Nat.succ a) (half k)) (bi (Nat.ble (Nat.succ b) (half k)) (fN (Nat.land a b) fun n => some (.nat k n)) none) none
  | .or => .mk fun k a b => bi (Nat.ble (Nat.succ a) (half k)) (bi (Nat.ble (Nat.succ b) (half k)) (fN (Nat.lor a b) fun n => some (.nat k n)) none) none
  | .xor => .mk fun k a b => bi (Nat.ble (Nat.succ a) (half k)) (bi (Nat.ble (Nat.succ b) (half k)) (fN (Nat.xor a b) fun n => some (.nat k n)) none) none
  | .andNot => .mk fun k a b => bi (Nat.ble (Nat.succ a) (half k)) (bi (Nat.ble (Nat.succ b) (half k)) (fN (Nat.xor a (Nat.land a b)) fun n => some (.nat k n)) none) none
  | .eql => .mk fun _ a b => some (.bool (Nat.beq a b))
  | .neq => .mk fun _ a b => bi (Nat.beq a b) (some (.bool false)) (some (.bool true))
  | .lss => .mk fun _ a b => bi (Nat.ble (Nat.succ a) b) (some (.bool true)) (some (.bool false))
  | .leq => .mk fun _ a b => bi (Nat.ble a b) (some (.bool true)) (some (.bool false))
  | .gtr => .mk fun _ a b => bi (Nat.ble (Nat.succ b) a) (some (.bool true)) (some (.bool false))
  | .geq => .mk fun _ a b => bi (Nat.ble b a) (some (.bool true)) (some (.bool false))
  | _ => .mk fun _ _ _ => none

def shiftK (op : BinOp) : KF (IntKind → V → Nat → Option V) :=
  match op with
  | .shl => .mk fun k x y => onNum x (fun _ a => bi (Nat.ble y k.bits) (natR k (Nat.mul a (Nat.pow 2 y))) (natR k (Nat.mul a (Nat.pow 2 k.bits)))) (fun _ a => wrapI k (Int.negSucc a * 2 ^ (min y k.bits)))
  | .shr => .mk fun k x y => onNum x (fun _ a => bi (Nat.ble y k.bits) (fN (Nat.shiftRight a y) fun n => some (.nat k n)) (fN (Nat.shiftRight a k.bits) fun n => some (.nat k n))) (fun _ a => some (ofInt k ((Int.negSucc a).fdiv (2 ^ (min y k.bits)))))
  | _ => .mk fun _ _ _ => none

/-! texts -/
def eqB (x : List Nat) : List Nat → Bool :=
  List.rec (motive := fun _ => List Nat → Bool) (fun y => List.rec (motive := fun _ => Bool) true (fun _ _ _ => false) y)
    (fun a _ ih y => List.rec (motive := fun _ => Bool) false (fun b y' _ => bi (Nat.beq (Nat.mod a 256) (Nat.mod b 256)) (ih y') false) y) x
/-- is x ahead of y? -/
def ltB (x : List Nat) : List Nat → Bool :=
  List.rec (motive := fun _ => List Nat → Bool) (fun y => List.rec (motive := fun _ => Bool) false (fun _ _ _ => true) y)
    (fun a _ ih y => List.rec (motive := fun _ => Bool) false (fun b y' _ => bi (Nat.ble (Nat.succ (Nat.mod a 256)) (Nat.mod b 256)) true (bi (Nat.beq (Nat.mod a 256) (Nat.mod b 256)) (ih y') false)) y) x
def notB (b : Bool) : Bool := bi b false true
def bV (b : Bool) : Option V := Bool.rec (motive := fun _ => Option V) (some (.bool false)) (some (.bool true)) b

def strK (op : BinOp) : KF (List Nat → List Nat → Option V) :=
  match op with
  | .add => .mk fun x y => bi (Nat.ble (Nat.add x.length y.length) 4611686018427387904) (some (.str (x ++ y))) none
  | .eql => .mk fun x y => bV (eqB x y)
  | .neq => .mk fun x y => bV (notB (eqB x y))
  | .lss => .mk fun x y => bV (ltB x y)
  | .leq => .mk fun x y => bV (notB (ltB y x))
  | .gtr => .mk fun x y => bV (ltB y x)
  | .geq => .mk fun x y => bV (notB (ltB x y))
  | _ => .mk fun _ _ => none

/-! rows as runs, to compare them -/
inductive Runs where
  | nil
  | cons (n : Nat) (v : V) (tl : Runs)

def V.runs (v : V) : Runs → Runs :=
  let one : V → Runs → Runs := fun v l => .cons 1 v l
  V.rec (motive := fun _ => Runs → Runs) (fun k n => one (.nat k n)) (fun k n => one (.neg k n)) (fun b => one (.bool b)) (fun s => one (.str s)) (fun t => one (.nilv t)) (fun a b => one (.ptr a b)) (fun a b => one (.gptr a b))
    (fun a b c d x => one (.sl a b c d x)) (one .sle) (fun i => one (.map i)) (fun f a b _ _ => one (.func f a b)) (fun r _ => one (.agg r)) (fun r _ => one (.tup r)) (fun i => one (.opq i))
    (fun l => l) (fun n u _ l => .cons n u l) (fun _ _ _ _ il ir l => il (ir l)) v

/-- the same number? only of numbers of one kind that are not below zero -/
def sameN (u v : V) : Option Bool := onNat u fun j a => onNat v fun k b => bi (kEq j k) (some (Nat.beq a b)) none

def eqRuns (f : Nat) : Runs → Runs → Option Bool :=
  Nat.rec (motive := fun _ => Runs → Runs → Option Bool) (fun _ _ => none) (fun _ ih x y =>
    Runs.rec (motive := fun _ => Option Bool)
      (Runs.rec (motive := fun _ => Option Bool) (some true) (fun _ _ _ _ => none) y)
      (fun n u l _ => Runs.rec (motive := fun _ => Option Bool) none (fun m v r _ =>
        bi (Nat.beq n 0) (ih l (.cons m v r)) (bi (Nat.beq m 0) (ih (.cons n u l) r)
        (ob (sameN u v) fun b => bi b
          (bi (Nat.beq n m) (ih l r) (bi (Nat.ble n m) (fN (Nat.sub m n) fun d => ih l (.cons d v r)) (fN (Nat.sub n m) fun d => ih (.cons d u l) r)))
          (some false)))) y) x) f

/-! entries -/
variable {β : Type}
def keyEq (a b : V) : Option Bool := onNat a (fun j n => onNat b fun k m => bi (kEq j k) (some (Nat.beq n m)) none)
def keyEqS (a b : V) : Option Bool := onStr a (fun x => onStr b fun y => some (eqB x y))
structure VS where
  v : V
  s : Nat
def findE (eq : V → V → Option Bool) (k : V) (es : Es) (no : Option β) (yes : V → Nat → Option β) : Option β :=
  Es.rec (motive := fun _ => Option β) no (fun k' v s _ ih => ob (eq k k') fun b => bi b (yes v s) ih) es
def setE (s : Nat) (v : V) (es : Es) : Es := Es.rec (motive := fun _ => Es) .nil (fun k u s' tl ih => bi (Nat.beq s s') (.cons k v s' tl) (.cons k u s' ih)) es
def delE (s : Nat) (es : Es) : Es := Es.rec (motive := fun _ => Es) .nil (fun k u s' tl ih => bi (Nat.beq s s') tl (.cons k u s' ih)) es
def addE (k v : V) (s : Nat) (es : Es) : Es := Es.rec (motive := fun _ => Es) (.cons k v s .nil) (fun k u s' _ ih => .cons k u s' ih) es
def lenE (es : Es) : Nat := Es.rec (motive := fun _ => Nat) 0 (fun _ _ _ _ ih => Nat.succ ih) es
def hasS (s : Nat) (es : Es) : Bool := Es.rec (motive := fun _ => Bool) false (fun _ _ s' _ ih => bi (Nat.beq s s') true ih) es
def memN (s : Nat) (l : NL) : Bool := NL.rec (motive := fun _ => Bool) false (fun n _ ih => bi (Nat.beq s n) true ih) l
/-- are they all there? -/
def allS (l : NL) (es : Es) : Bool := NL.rec (motive := fun _ => Bool) true (fun n _ ih => bi (hasS n es) ih false) l
/-- those whose stamps are not there -/
def leftE (seen : NL) (es : Es) : Es := Es.rec (motive := fun _ => Es) .nil (fun k v s _ ih => bi (memN s seen) ih (.cons k v s ih)) es
def getS {β : Type} (s : Nat) (es : Es) (f : V → V → Option β) : Option β := Es.rec (motive := fun _ => Option β) none (fun k v s' _ ih => bi (Nat.beq s s') (f k v) ih) es
end
end Go.AE

namespace Go.AE
open Go
noncomputable section

deriving instance DecidableEq for V

/-! constants -/
def bytesOf (s : ByteArray) : List Nat := s.data.toList.map (·.toNat)

def addRun (v : V) : List (Nat × V) → List (Nat × V)
  | [] => [(1, v)]
  | (n, u) :: l => match (if u = v then true else false) with
    | true => (n + 1, u) :: l
    | false => (1, v) :: (n, u) :: l
def ropeOfRuns : List (Nat × V) → V
  | [] => .nil
  | (n, v) :: l => V.mk (V.mkRep n v) (ropeOfRuns l)

/-- a constant of one cell -/
def cs1 : Value → Option V
  | .bool b => some (.bool b)
  | .int k (.ofNat n) => some (.nat k n)
  | .int k (.negSucc n) => some (.neg k n)
  | .string s => some (.str (bytesOf s))
  | .pointer none => some (.nilv 0)
  | .slice none 0 0 => some (.nilv 1)
  | .map none => some (.nilv 2)
  | .nilFunc => some (.nilv 3)
  | .nilIface => some (.nilv 4)
  | _ => none
def cvs : List Value → Option (List (Nat × V))
  | [] => some []
  | v :: l => match cs1 v, cvs l with
    | some x, some xs => some (addRun x xs)
    | _, _ => none
def cv : Value → Option V
  | .agg ⟨cs⟩ => match cvs cs with
    | some runs => some (.agg (ropeOfRuns runs))
    | none => none
  | v => cs1 v

/-! the program's tables -/
structure Env where
  und : Nat → Option TypeDesc
  size : Nat → Option Nat
  bytes : Nat → Option Nat
  zero : Nat → Option V
  fn : Nat → Option Func
  glob : Nat → Option V

abbrev T := NT (Option V) 8
def undefV : V := .tup .nil

/-- a new block: what lies in it, and the value that is made of its number -/
structure BF where
  b : Nat → Blk
  v : Nat → V
structure FA where
  f : Nat
  a : V
inductive CK where
  | pure (f : T → Option V)
  | read (f : T → HS → Option V)
  | alloc (f : T → Option BF)
  | eff (f : T → HS → Option VH)
  | call (f : T → Option FA)
  | bad

def opdC : Operand → KF (T → Option V)
  | .tmp n => bi (Nat.ble (Nat.succ n) 256) (tgetC (α := Option V) 8 n) (.mk fun _ => none)
  | .const v => (match cv v with
    | some x => .mk fun _ => some x
    | none => .mk fun _ => none)
  | .global g => .mk fun _ => some (.gptr g 0)
  | .func f => .mk fun _ => some (.func f .nil .nil)

/-- operands as a row: 'n' of them -/
def opdsC : Nat → List Operand → KF (T → Option V)
  | _, [] => .mk fun _ => some .nil
  | _, [o] => opdC o
  | n, o :: l => (opdC o).app fun g => (opdsC (n - 1) l).app fun gs => .mk fun t => ob (g t) fun v => ob (gs t) fun vs => some (.cat 1 n v vs)

def optC : Option Operand → KF (T → Option (Option V))
  | none => .mk fun _ => some none
  | some o => (opdC o).app fun g => .mk fun t => ob (g t) fun v => some (some v)

/-- no tuple -/
def notTup (v : V) : Bool :=
  V.rec (motive := fun _ => Bool) (fun _ _ => true) (fun _ _ => true) (fun _ => true) (fun _ => true) (fun _ => true) (fun _ _ => true) (fun _ _ => true) (fun _ _ _ _ _ => true)
    true (fun _ => true) (fun _ _ _ _ _ => true) (fun _ _ => true) (fun _ _ => false) (fun _ => true) true (fun _ _ _ => true) (fun _ _ _ _ _ _ => true) v

variable (E : Env)

def isAgg (t : Nat) : Option Bool := match E.und t with
  | some (.struct _) => some true
  | some (.array _ _) => some true
  | some _ => some false
  | none => none

def partC (e : Nat) : KF (V → Nat → Option V) :=
  match isAgg E e, E.size e with
  | some true, some n => .mk fun r off => ob (r.ext off n) fun x => some (.agg x)
  | some false, some _ => .mk fun r off => r.get off
  | _, _ => .mk fun _ _ => none

def loadC (ty : Nat) : KF (V → HS → Option V) :=
  (partC E ty).app fun p => .mk fun a h => onPtrs a (fun id off => onCells (h.get id) fun _ r _ => p r off) (fun g off => ob (E.glob g) fun r => p r off)

def storeC (ty : Nat) : KF (V → V → HS → Option VH) :=
  match E.size ty with
  | some n => .mk fun a v h => onPtr a fun id off => onCells (h.get id) fun e r x =>
      bi (notTup v) (bi (Nat.beq v.cells.size n) (ob (r.upd off v.cells n) fun r' => some (VH.mk undefV (h.set id (some (.cells e r' x))))) none) none
  | none => .mk fun _ _ _ => none

def repeatR (z : V) (n : Nat) : V := match z with
  | .rep k v => V.mkRep (k * n) v
  | .cat a b l r => Nat.rec (motive := fun _ => V) .nil (fun _ ih => V.mk (.cat a b l r) ih) n
  | .nil => .nil
  | v => V.mkRep n v

/-- parts put into a row -/
def putC (place : Nat → Option (Nat × Nat)) : List (Nat × Operand) → KF (T → V → Option V)
  | [] => .mk fun _ r => some r
  | (i, o) :: l => (match place i with
    | some (off, n) => (opdC o).app fun g => (putC place l).app fun k => .mk fun t r => ob (g t) fun v => bi (notTup v) (bi (Nat.ble (Nat.add off n) r.size) (bi (Nat.beq v.cells.size n) (ob (r.upd off v.cells n) fun r' => k t r') none) none) none
    | none => .mk fun _ _ => none)

/-- the first n elements' cells of a slice or string -/
def firstC (size : Nat) : KF (V → Nat → HS → Option V) :=
  .mk fun v n h => onSeq v (fun s => bi (Nat.beq size 1) (some (V.ofList ((s.take n).map fun b => .nat .u8 (Nat.mod b 256)))) none) (some .nil) (some .nil)
    (fun id off _ _ _ => onCells (h.get id) fun _ r _ => r.ext off (Nat.mul n size))
def lenV (v : V) : Option Nat := onSeq v (fun s => fN s.length some) (some 0) (some 0) (fun _ _ n _ _ => some n)

/-- what is appended: how many, and the row -/
def whatC (t1 : Option Nat) (bytes : Nat) (z : V) (first : V → Nat → HS → Option V) : V → HS → (Nat → V → Option VH) → Option VH :=
  match t1 with
  | none => fun x h k => ob (lenV x) fun n => ob (first x n h) fun r => k n r
  | some t1 => match E.und t1 with
    | some (.int _) => fun x _ k => onNat x fun _ n => bi (Nat.ble (Nat.mul n (Nat.succ bytes)) 70368744177664) (k n (repeatR z n)) none
    | some _ => fun x h k => ob (lenV x) fun n => ob (first x n h) fun r => k n r
    | none => fun _ _ _ => none

/-- no room: a new row, or the old one by another name -/
def growC (elem size bytes : Nat) (h : HS) (new : V) (need : Nat) (id off len cap : Nat) (cx : Option Nat) : Option VH :=
  bi (Nat.ble (Nat.mul (Nat.add (Nat.mul 2 need) 1000) (Nat.succ bytes)) 281474976710656)
    (onCells (h.get id) fun e r bx => ob (r.ext off (Nat.mul len size)) fun old =>
      Option.rec (motive := fun _ => Option VH)
        (h.new (.cells elem (V.mk old new) (some h.c)) fun c => .sl c 0 need need (some c))
        (fun i => bi (Nat.beq off 0) (bi (Nat.beq r.size (Nat.mul cap size)) (bi (Nat.beq e elem)
          (Option.rec (motive := fun _ => Option VH) none (fun j => bi (Nat.beq i j) ((h.set id none).new (.cells elem (V.mk old new) (some h.c)) fun c => .sl c 0 need need (some c)) none) bx) none) none) none) cx)
    none

def appendC (t0 : Nat) (t1 : Option Nat) : KF (V → V → HS → Option VH) :=
  match E.und t0 with
  | some (.slice elem) =>
    (match E.size elem, E.bytes elem, E.zero elem with
    | some size, some bytes, some z =>
      bi (Nat.beq z.cells.size size) ((firstC size).app fun first =>
      (KF.mk (whatC E t1 bytes z.cells first)).app fun what =>
      .mk fun s x h => what x h fun n new =>
        onSl s
          (bi (Nat.beq n 0) (some (VH.mk (.nilv 1) h))
            (bi (Nat.ble (Nat.mul (Nat.add (Nat.mul 2 n) 1000) (Nat.succ bytes)) 281474976710656) (h.new (.cells elem new (some h.c)) fun c => .sl c 0 n n (some c)) none))
          (bi (Nat.beq n 0) (some (VH.mk .sle h)) none)
          (fun id off len cap cx => fN (Nat.add len n) fun need =>
            bi (Nat.ble need cap)
              (onCells (h.get id) fun e r bx => ob (r.upd (Nat.add off (Nat.mul len size)) new (Nat.mul n size)) fun r' => some (VH.mk (.sl id off need cap cx) (h.set id (some (.cells e r' bx)))))
              (growC elem size bytes h new need id off len cap cx))) (.mk fun _ _ _ => none)
    | _, _, _ => .mk fun _ _ _ => none)
  | _ => .mk fun _ _ _ => none

def copyC (t0 : Nat) : KF (V → V → HS → Option VH) :=
  match E.und t0 with
  | some (.slice elem) =>
    (match E.size elem with
    | some size => (firstC size).app fun first => .mk fun dst src h => ob (lenV src) fun sn => ob (lenV dst) fun dn =>
        bi (Nat.ble sn dn)
          (ob (first src sn h) fun cells => onSl dst (some (VH.mk (.nat .i64 sn) h)) (some (VH.mk (.nat .i64 sn) h)) fun id off _ _ _ => onCells (h.get id) fun e r x => ob (r.upd off cells (Nat.mul sn size)) fun r' => some (VH.mk (.nat .i64 sn) (h.set id (some (.cells e r' x)))))
          (ob (first src dn h) fun cells => onSl dst (some (VH.mk (.nat .i64 dn) h)) (some (VH.mk (.nat .i64 dn) h)) fun id off _ _ _ => onCells (h.get id) fun e r x => ob (r.upd off cells (Nat.mul dn size)) fun r' => some (VH.mk (.nat .i64 dn) (h.set id (some (.cells e r' x)))))
    | none => .mk fun _ _ _ => none)
  | _ => .mk fun _ _ _ => none

/-- how the keys of a type are compared -/
def keyC (t : Nat) : Option (V → V → Option Bool) := match E.und t with
  | some (.int _) => some keyEq
  | some .string => some keyEqS
  | _ => none
/-- is it a key of that type? -/
def keyOkC (t : Nat) : V → Option V → Option V := match E.und t with
  | some (.int _) => fun k r => onNat k fun _ _ => r
  | some .string => fun k r => onStr k fun _ => r
  | _ => fun _ _ => none

def boundN (x : V) (y : Nat) (f : Nat → Option V) : Option V := onNat x fun _ n => bi (Nat.ble n y) (f n) none
def bnd (d y : Nat) (x : Option V) (f : Nat → Option V) : Option V := Option.rec (motive := fun _ => Option V) (f d) (fun v => boundN v y f) x

def sliceC (tt : Nat) : KF (V → Option V → Option V → Option V → Option V) :=
  match E.und tt with
  | some .string => .mk fun x lo hi mx => onStr x fun s => Option.rec (motive := fun _ => Option V)
      (fN s.length fun n => bnd n n hi fun h => bnd 0 h lo fun l => some (.str ((s.drop l).take (Nat.sub h l)))) (fun _ => none) mx
  | some (.slice elem) => (match E.size elem with
    | some size => .mk fun x lo hi mx => onSl x
        (Option.rec (motive := fun _ => Option V) (bnd 0 0 hi fun _ => bnd 0 0 lo fun _ => some (.nilv 1)) (fun _ => none) mx)
        (Option.rec (motive := fun _ => Option V) (bnd 0 0 hi fun _ => bnd 0 0 lo fun _ => some .sle) (fun _ => none) mx)
        (fun id off len cap cx => Option.rec (motive := fun _ => Option V)
          (bnd len cap hi fun h => bnd 0 h lo fun l => Option.rec (motive := fun _ => Option V)
            (fN (bi (Nat.beq cap l) off (Nat.add off (Nat.mul l size))) fun o => fN (Nat.sub h l) fun n => fN (Nat.sub cap l) fun c => some (.sl id o n c none))
            (fun i => bi (Nat.beq l 0) (some (.sl id off h cap (some i)))
              (bi (Nat.ble cap l) (bi (Nat.ble h l) (some .sle) none) (fN (Nat.add off (Nat.mul l size)) fun o => fN (Nat.sub h l) fun n => fN (Nat.sub cap l) fun c => some (.sl id o n c (some i))))) cx)
          (fun m => boundN m cap fun m => Option.rec (motive := fun _ => Option V) none (fun hi => boundN hi m fun h => bnd 0 h lo fun l =>
            fN (bi (Nat.beq m l) off (Nat.add off (Nat.mul l size))) fun o => fN (Nat.sub h l) fun n => fN (Nat.sub m l) fun c => some (.sl id o n c none)) hi) mx)
    | none => .mk fun _ _ _ _ => none)
  | some (.array n elem) => (match E.size elem with
    | some size => .mk fun x lo hi mx => onPtr x fun id off => Option.rec (motive := fun _ => Option V) (bnd n n hi fun h => bnd 0 h lo fun l =>
        fN (bi (Nat.beq n l) off (Nat.add off (Nat.mul l size))) fun o => fN (Nat.sub h l) fun k => fN (Nat.sub n l) fun c => some (.sl id o k c none)) (fun _ => none) mx
    | none => .mk fun _ _ _ _ => none)
  | _ => .mk fun _ _ _ _ => none

/-- is it nil, of that kind? -/
def nilOf (k : Nat) (v : V) : Option Bool :=
  V.rec (motive := fun _ => Option Bool) (fun _ _ => none) (fun _ _ => none) (fun _ => none) (fun _ => none) (fun t => bi (Nat.beq t k) (some true) none)
    (fun _ _ => bi (Nat.beq k 0) (some false) none) (fun _ _ => bi (Nat.beq k 0) (some false) none) (fun _ _ _ _ _ => bi (Nat.beq k 1) (some false) none)
    none (fun _ => bi (Nat.beq k 2) (some false) none) (fun _ _ _ _ _ => bi (Nat.beq k 3) (some false) none) (fun _ _ => none) (fun _ _ => none) (fun _ => none) none (fun _ _ _ => none) (fun _ _ _ _ _ _ => none) v

def nilC (op : BinOp) (k : Nat) : KF (V → V → Option V) := match op with
  | .eql => .mk fun x y => ob (nilOf k x) fun a => ob (nilOf k y) fun b => bi b (bV a) (bi a (some (.bool false)) none)
  | .neq => .mk fun x y => ob (nilOf k x) fun a => ob (nilOf k y) fun b => bi b (bV (notB a)) (bi a (some (.bool true)) none)
  | _ => .mk fun _ _ => none

def arithC (op : BinOp) (ty : Nat) : KF (V → V → Option V) :=
  match E.und ty with
  | some (.int _) => (fastArith op).app fun f => (KF.mk (slowArith op)).app fun g => .mk fun x y =>
      onNum x (fun k a => onNum y (fun k' b => bi (kEq k k') (f k a b) none) (fun k' b => bi (kEq k k') (g k (.ofNat a) (.negSucc b)) none))
        (fun k a => onNum y (fun k' b => bi (kEq k k') (g k (.negSucc a) (.ofNat b)) none) (fun k' b => bi (kEq k k') (g k (.negSucc a) (.negSucc b)) none))
  | some .string => (strK op).app fun f => .mk fun x y => onStr x fun a => onStr y fun b => f a b
  | some .bool => (match op with
    | .eql => .mk fun x y => onBool x fun a => onBool y fun b => bV (bi a b (notB b))
    | .neq => .mk fun x y => onBool x fun a => onBool y fun b => bV (bi a (notB b) b)
    | _ => .mk fun _ _ => none)
  | some (.array n e) => (match E.und e, E.size e, op with
    | some (.int _), some 1, .eql => .mk fun x y => onAgg x fun a => onAgg y fun b => bi (Nat.beq a.size n) (bi (Nat.beq b.size n) (ob (eqRuns 100000 (a.runs .nil) (b.runs .nil)) bV) none) none
    | some (.int _), some 1, .neq => .mk fun x y => onAgg x fun a => onAgg y fun b => bi (Nat.beq a.size n) (bi (Nat.beq b.size n) (ob (eqRuns 100000 (a.runs .nil) (b.runs .nil)) fun r => bV (notB r)) none) none
    | _, _, _ => .mk fun _ _ => none)
  | some (.pointer _) => nilC op 0
  | some (.slice _) => nilC op 1
  | some (.map _ _) => nilC op 2
  | some (.func _ _ _) => nilC op 3
  | _ => .mk fun _ _ => none

def binC (op : BinOp) (ty : Nat) : KF (V → V → Option V) :=
  match op with
  | .shl | .shr => (shiftK op).app fun s => .mk fun x y => onNum x (fun k _ => onNat y fun _ b => s k x b) (fun k _ => onNat y fun _ b => s k x b)
  | op => arithC E op ty

def unC (op : UnOp) : KF (V → Option V) :=
  match op with
  | .not => .mk fun x => onBool x fun b => bV (notB b)
  | .neg => .mk fun x => onNum x (fun k n => wrapI k (0 - .ofNat n)) (fun k n => wrapI k (0 - .negSucc n))
  | .xor => .mk fun x => onNum x (fun k n => wrapI k ((BitVec.ofInt k.bits (if k.signed then -1 else k.max) ^^^ BitVec.ofInt k.bits (.ofNat n)).toNat))
      (fun k n => wrapI k ((BitVec.ofInt k.bits (if k.signed then -1 else k.max) ^^^ BitVec.ofInt k.bits (.negSucc n)).toNat))
  | _ => .mk fun _ => none

def bytesRow (s : List Nat) : V := V.ofList (s.map fun b => .nat .u8 (Nat.mod b 256))
def runsBytes (r : Runs) : Option (List Nat) := Runs.rec (motive := fun _ => Option (List Nat)) (some []) (fun n v _ ih => onNat v fun k b => bi (kEq k .u8) (ob ih fun l => some (Nat.rec (motive := fun _ => List Nat) l (fun _ l => b :: l) n)) none) r

def minmaxC (isMax : Bool) : KF (V → V → Option V) :=
  match isMax with
  | true => .mk fun x y => onNum x (fun k a => onNum y (fun _ b => bi (Nat.ble b a) (some (.nat k a)) (some (.nat k b))) (fun _ _ => some (.nat k a)))
      (fun k a => onNum y (fun _ b => some (.nat k b)) (fun _ b => bi (Nat.ble a b) (some (.neg k a)) (some (.neg k b))))
  | false => .mk fun x y => onNum x (fun k a => onNum y (fun _ b => bi (Nat.ble a b) (some (.nat k a)) (some (.nat k b))) (fun _ b => some (.neg k b)))
      (fun k a => onNum y (fun _ _ => some (.neg k a)) (fun _ b => bi (Nat.ble b a) (some (.neg k a)) (some (.neg k b))))
def minmaxS (isMax : Bool) : KF (V → V → Option V) :=
  match isMax with
  | true => .mk fun x y => onStr x fun a => onStr y fun b => bi (ltB a b) (some (.str b)) (some (.str a))
  | false => .mk fun x y => onStr x fun a => onStr y fun b => bi (ltB b a) (some (.str b)) (some (.str a))

def two (a b : V) : V := .tup (.cat 1 2 a b)
def three (a b c : V) : V := .tup (.cat 1 3 a (.cat 1 2 b c))
/-- a tuple of one -/
def single (a : V) : V := .tup a

def cMove (x : Operand) : CK := .pure (opdC x).out
def cPick (c a b : Operand) : CK := (opdC c).app fun gc => (opdC a).app fun ga => (opdC b).app fun gb => .pure fun t => ob (gc t) fun v => onBool v fun b => bi b (ga t) (gb t)
def cAlloc (e : Nat) : CK := match E.zero e with
  | some z => (KF.mk z.cells).app fun z => .alloc fun _ => some ⟨fun _ => .cells e z none, fun c => .ptr c 0⟩
  | none => .bad
def cBox (e : Nat) (x : Operand) : CK := (opdC x).app fun g => .alloc fun t => ob (g t) fun v => bi (notTup v) (some ⟨fun _ => .cells e v.cells none, fun c => .ptr c 0⟩) none
def fieldPl (fs : Array Field) (i : Nat) : Option (Nat × Nat) := match fs[i]? with
  | some f => (match E.size f.type with
    | some n => some (f.offset, n)
    | none => none)
  | none => none
def cBuild (ty : Nat) (ps : Array (Nat × Operand)) : CK := match E.zero ty, E.und ty with
  | some z, some (.struct fs) => bi (fs.all fun f => (E.size f.type).isSome) ((putC (fieldPl E fs) ps.toList).app fun k => (KF.mk z.cells).app fun z => .pure fun t => ob (k t z) fun r => some (.agg r)) .bad
  | some z, some (.array _ e) => (match E.size e with
    | some n => (putC (fun i => some (i * n, n)) ps.toList).app fun k => (KF.mk z.cells).app fun z => .pure fun t => ob (k t z) fun r => some (.agg r)
    | none => .bad)
  | _, _ => .bad
def cBuildSlice (ty len : Nat) (ps : Array (Nat × Operand)) : CK := match E.und ty with
  | some (.slice e) => (match E.size e, E.zero e with
    | some n, some z => bi (Nat.ble (len * n) 16777216 && Nat.beq z.cells.size n)
        ((putC (fun i => some (i * n, n)) ps.toList).app fun k => (KF.mk (repeatR z.cells len)).app fun z => .alloc fun t => ob (k t z) fun r => some ⟨fun _ => .cells e r none, fun c => .sl c 0 len len none⟩) .bad
    | _, _ => .bad)
  | _ => .bad
def cLoad (ty : Nat) (a : Operand) : CK := (opdC a).app fun g => (loadC E ty).app fun l => .read fun t h => ob (g t) fun p => l p h
def cStore (ty : Nat) (a x : Operand) : CK := (opdC a).app fun ga => (opdC x).app fun gx => (storeC E ty).app fun s => .eff fun t h => ob (ga t) fun p => ob (gx t) fun v => s p v h
def cNilCheck (x : Operand) : CK := (opdC x).app fun g => .pure fun t => ob (g t) fun v => onNil v none (some v)
def cBin (op : BinOp) (ty : Nat) (x y : Operand) : CK := (opdC x).app fun gx => (opdC y).app fun gy => (binC E op ty).app fun f => .pure fun t => ob (gx t) fun a => ob (gy t) fun b => f a b
def cUn (op : UnOp) (x : Operand) : CK := (opdC x).app fun g => (unC op).app fun f => .pure fun t => ob (g t) fun a => f a
def isU8 (e : Nat) : Bool := match E.und e, E.size e with
  | some (.int .u8), some 1 => true
  | _, _ => false
def cConv (src dst : Nat) (x : Operand) : CK := (opdC x).app fun g => match E.und src, E.und dst with
  | some (.int _), some (.int k) => .pure fun t => ob (g t) fun x => onNum x (fun _ n => natR k n) (fun _ n => wrapI k (.negSucc n))
  | some .string, some .string => .pure fun t => ob (g t) fun x => onStr x fun s => some (.str s)
  | some (.slice _), some (.slice e) => bi (isU8 E e && Nat.beq src dst) (.eff fun t h => ob (g t) fun v => onSl v none none fun i a b c d => onCells (h.get i) fun _ _ _ => some (VH.mk (.sl i a b c d) h)) .bad
  | some .string, some (.slice e) => bi (isU8 E e) (.alloc fun t => ob (g t) fun x => onStr x fun s => fN s.length fun n => some ⟨fun c => .cells e (bytesRow s) (some c), fun c => .sl c 0 n n (some c)⟩) .bad
  | some (.slice e), some .string => bi (isU8 E e) (.read fun t h => ob (g t) fun x => onSl x (some (.str [])) (some (.str [])) fun id off n _ _ => onCells (h.get id) fun _ r _ => ob (r.ext off n) fun r => ob (runsBytes (r.runs .nil)) fun l => some (.str l)) .bad
  | _, _ => .bad
def cMakeFunc (f : Nat) (first captured : Array Operand) : CK := (opdsC first.toList.length first.toList).app fun ga => (opdsC captured.toList.length captured.toList).app fun gb => .pure fun t => ob (ga t) fun a => ob (gb t) fun b => some (.func f a b)
def cMakeMap (r : Option Operand) : CK := match r with
  | none => .alloc fun _ => some ⟨fun c => .map .nil c, fun c => .map c⟩
  | some _ => .bad
def cMakeSlice (ty : Nat) (l c : Operand) : CK := match E.und ty with
  | some (.slice e) => (match E.size e, E.bytes e, E.zero e with
    | some n, some b, some z => bi (Nat.beq z.cells.size n) ((opdC l).app fun gl => (opdC c).app fun gc => (KF.mk z.cells).app fun z => .alloc fun t => ob (gl t) fun l => ob (gc t) fun c => onNat l fun kl l => onNat c fun kc c =>
        bi (kEq kl .i64) (bi (kEq kc .i64) (bi (Nat.ble (Nat.mul b c) 70368744177664) (bi (Nat.ble l c) (bi (Nat.ble c 70368744177664) (some ⟨fun _ => .cells e (repeatR z c) none, fun id => .sl id 0 l c none⟩) none) none) none) none) none) .bad
    | _, _, _ => .bad)
  | _ => .bad
def cSlice (ty : Nat) (x : Operand) (lo hi mx : Option Operand) : CK := (opdC x).app fun g => (optC lo).app fun gl => (optC hi).app fun gh => (optC mx).app fun gm => (sliceC E ty).app fun f =>
  .pure fun t => ob (g t) fun x => ob (gl t) fun lo => ob (gh t) fun hi => ob (gm t) fun mx => f x lo hi mx
def cFieldAddr (s : Nat) (x : Operand) (f : Nat) : CK := match E.und s with
  | some (.struct fs) => (match fs[f]? with
    | some fl => (match E.size fl.type with
      | some (_ + 1) => (opdC x).app fun g => (KF.mk fl.offset).app fun fo => .pure fun t => ob (g t) fun v => onPtr v fun id off => fN (Nat.add off fo) fun o => some (.ptr id o)
      | _ => .bad)
    | none => .bad)
  | _ => .bad
def cField (xt : Nat) (x : Operand) (f : Nat) : CK := match E.und xt with
  | some (.struct fs) => (match fs[f]? with
    | some fl => (opdC x).app fun g => (partC E fl.type).app fun p => (KF.mk fl.offset).app fun fo => .pure fun t => ob (g t) fun v => onAgg v fun r => p r fo
    | none => .bad)
  | _ => .bad
def cIndexAddr (ty : Nat) (x i : Operand) : CK := (opdC x).app fun gx => (opdC i).app fun gi => match E.und ty with
  | some (.array n e) => (match E.size e with
    | some s => .pure fun t => ob (gx t) fun v => ob (gi t) fun i => onNat i fun _ i => bi (Nat.ble (Nat.succ i) n)
        (onPtrs v (fun id off => fN (Nat.add off (Nat.mul i s)) fun o => some (.ptr id o)) (fun g off => fN (Nat.add off (Nat.mul i s)) fun o => some (.gptr g o))) none
    | none => .bad)
  | some (.slice e) => (match E.size e with
    | some s => .pure fun t => ob (gx t) fun v => ob (gi t) fun i => onNat i fun _ i => onSl v none none fun id off len _ _ => bi (Nat.ble (Nat.succ i) len) (fN (Nat.add off (Nat.mul i s)) fun o => some (.ptr id o)) none
    | none => .bad)
  | _ => .bad
def cIndex (ty : Nat) (x i : Operand) : CK := (opdC x).app fun gx => (opdC i).app fun gi => match E.und ty with
  | some (.array n e) => (match E.size e with
    | some s => (partC E e).app fun p => .pure fun t => ob (gx t) fun v => ob (gi t) fun i => onNat i fun _ i => bi (Nat.ble (Nat.succ i) n) (onAgg v fun r => p r (Nat.mul i s)) none
    | none => .bad)
  | some .string => .pure fun t => ob (gx t) fun v => ob (gi t) fun i => onNat i fun _ i => onStr v fun s => ob s[i]? fun b => fN (Nat.mod b 256) fun b => some (.nat .u8 b)
  | _ => .bad
def cLookup (ty : Nat) (x i : Operand) (commaOk : Bool) : CK := (opdC x).app fun gx => (opdC i).app fun gi => match E.und ty with
  | some (.map kt e) => (match keyC E kt, E.zero e with
    | some eq, some z => (KF.mk (keyOkC E kt)).app fun okk => (match commaOk with
      | true => .read fun t h => ob (gx t) fun m => ob (gi t) fun k => okk k (onMap m (some (two z (.bool false))) fun id => onMapB (h.get id) fun es _ => findE eq k es (some (two z (.bool false))) fun v _ => some (two v (.bool true)))
      | false => .read fun t h => ob (gx t) fun m => ob (gi t) fun k => okk k (onMap m (some z) fun id => onMapB (h.get id) fun es _ => findE eq k es (some z) fun v _ => some v))
    | _, _ => .bad)
  | _ => .bad
def cMapUpdate (ty : Nat) (m k x : Operand) : CK := (opdC m).app fun gm => (opdC k).app fun gk => (opdC x).app fun gx => match E.und ty with
  | some (.map kt _) => (match keyC E kt with
    | some eq => .eff fun t h => ob (gm t) fun m => ob (gk t) fun k => ob (gx t) fun v => onMap m none fun id => onMapB (h.get id) fun es ck =>
        ob (keyOkC E kt k (some k)) fun _ => findE eq k es
          (fN h.c fun c => bi (Nat.ble (Nat.add c 2) 16384) (some (VH.mk undefV (HS.mk (h.set id (some (.map (addE k v c es) (Nat.succ c)))).m (Nat.add c 2)))) none)
          (fun _ s => some (VH.mk undefV (h.set id (some (.map (setE s v es) ck)))))
    | none => .bad)
  | _ => .bad
def cMapEntry (ty : Nat) (m k : Operand) : CK := (opdC m).app fun gm => (opdC k).app fun gk => match E.und ty with
  | some (.map kt e) => (match keyC E kt, E.zero e with
    | some eq, some z => .eff fun t h => ob (gm t) fun m => ob (gk t) fun k => onMap m none fun id => onMapB (h.get id) fun es _ =>
        ob (keyOkC E kt k (some k)) fun _ => findE eq k es
          (fN h.c fun c => bi (Nat.ble (Nat.add c 2) 16384) (some (VH.mk (two z (.opq c)) (HS.mk (h.set id (some (.map (addE k z c es) (Nat.succ c)))).m (Nat.add c 2)))) none)
          (fun v s => bi (Nat.ble 100000 s) none (some (VH.mk (two v (.opq s)) h)))
    | _, _ => .bad)
  | _ => .bad
def cEntryStore (m s x : Operand) : CK := (opdC m).app fun gm => (opdC s).app fun gs => (opdC x).app fun gx => .eff fun t h => ob (gm t) fun m => ob (gs t) fun s => ob (gx t) fun v =>
  onMap m none fun id => onOpq s fun s => bi (Nat.ble 100000 s) none (onMapB (h.get id) fun es ck => bi (hasS s es) (some (VH.mk undefV (h.set id (some (.map (setE s v es) ck))))) none)
def cRange (ty : Nat) (x : Operand) : CK := (opdC x).app fun g => match E.und ty with
  | some (.map _ _) => .eff fun t h => ob (g t) fun m => onMap m (h.new .iter0 fun c => .ptr c 0) fun id => onMapB (h.get id) fun _ ck => h.new (.iter id ck .nil ck) fun c => .ptr c 0
  | _ => .bad
def cNext (it : Operand) : CK := (opdC it).app fun g => .eff fun t h => ob (g t) fun p => onPtr p fun i off => bi (Nat.beq off 0) (onIter (h.get i) (some (VH.mk (single (.bool false)) h)) fun m since seen _ => onMapB (h.get m) fun es ck =>
  bi (Nat.beq ck since) (bi (allS seen es)
    (Es.rec (motive := fun _ => Option VH) (some (VH.mk (single (.bool false)) h))
      (fun k v s tl _ => Es.rec (motive := fun _ => Option VH) (some (VH.mk (three (.bool true) k v) (h.set i (some (.iter m since (.cons s seen) ck))))) (fun _ _ _ _ _ => none) tl) (leftE seen es)) none) none) none
def cEntry (it : Operand) : CK := (opdC it).app fun g => .read fun t h => ob (g t) fun p => onPtr p fun i off => bi (Nat.beq off 0) (onIter (h.get i) none fun m _ seen stepped => onMapB (h.get m) fun es ck =>
  bi (Nat.beq ck stepped) (NL.rec (motive := fun _ => Option V) none (fun s _ _ => getS s es fun k v => some (two k v)) seen) none) none
def cExtract (x : Operand) (i : Nat) : CK := (opdC x).app fun g => .pure fun t => ob (g t) fun v => onTup v fun r => r.get i
def cCallF (f : Nat) (args : List Operand) : CK := (opdsC args.length args).app fun ga => .call fun t => ob (ga t) fun a => some ⟨f, a⟩
def cCallV (f : Operand) (args : List Operand) : CK := (opdC f).app fun g => (opdsC args.length args).app fun ga => .call fun t => ob (g t) fun v => ob (ga t) fun a => onFunc v fun f x y => some ⟨f, V.mk x (V.mk a y)⟩
def cAppend (t0 : Nat) (t1 : Option Nat) (s x : Operand) : CK := (opdC s).app fun gs => (opdC x).app fun gx => (appendC E t0 t1).app fun f => .eff fun t h => ob (gs t) fun s => ob (gx t) fun x => f s x h
def cCopy (t0 : Nat) (s x : Operand) : CK := (opdC s).app fun gs => (opdC x).app fun gx => (copyC E t0).app fun f => .eff fun t h => ob (gs t) fun s => ob (gx t) fun x => f s x h
def cLen (t0 : Nat) (x : Operand) : CK := (opdC x).app fun g => match E.und t0 with
  | some (.array n _) => .pure fun _ => some (.nat .i64 n)
  | some (.map _ _) => .read fun t h => ob (g t) fun m => onMap m (some (.nat .i64 0)) fun id => onMapB (h.get id) fun es _ => fN (lenE es) fun n => some (.nat .i64 n)
  | some (.slice _) => .pure fun t => ob (g t) fun x => onSl x (some (.nat .i64 0)) (some (.nat .i64 0)) fun _ _ n _ _ => some (.nat .i64 n)
  | some .string => .pure fun t => ob (g t) fun x => onStr x fun s => fN s.length fun n => some (.nat .i64 n)
  | _ => .bad
def cCap (t0 : Nat) (x : Operand) : CK := (opdC x).app fun g => match E.und t0 with
  | some (.slice _) => .pure fun t => ob (g t) fun x => onSl x (some (.nat .i64 0)) none fun _ _ _ c cx => Option.rec (motive := fun _ => Option V) (some (.nat .i64 c)) (fun _ => none) cx
  | _ => .bad
def cMinmax (isMax : Bool) (ty : Nat) (x y : Operand) : CK := (opdC x).app fun gx => (opdC y).app fun gy => match E.und ty with
  | some (.int _) => (minmaxC isMax).app fun f => .pure fun t => ob (gx t) fun x => ob (gy t) fun y => f x y
  | some .string => (minmaxS isMax).app fun f => .pure fun t => ob (gx t) fun x => ob (gy t) fun y => f x y
  | _ => .bad
def cClear (t0 : Nat) (x : Operand) : CK := (opdC x).app fun g => match E.und t0 with
  | some (.map _ _) => .eff fun t h => ob (g t) fun m => onMap m (some (VH.mk undefV h)) fun id => onMapB (h.get id) fun _ ck => some (VH.mk undefV (h.set id (some (.map .nil ck))))
  | _ => .bad
def cDelete (t0 : Nat) (m k : Operand) : CK := (opdC m).app fun gm => (opdC k).app fun gk => match E.und t0 with
  | some (.map kt _) => (match keyC E kt with
    | some eq => .eff fun t h => ob (gm t) fun m => ob (gk t) fun k => ob (keyOkC E kt k (some k)) fun _ => onMap m (some (VH.mk undefV h)) fun id => onMapB (h.get id) fun es ck => findE eq k es (some (VH.mk undefV h)) fun _ s => some (VH.mk undefV (h.set id (some (.map (delE s es) ck))))
    | none => .bad)
  | _ => .bad

def compB (b : Builtin) (ty : Nat) (args : List Operand) (tys : Array TypeId) : CK := match b, args, tys[0]? with
  | .append, [s, x], some t0 => cAppend E t0 tys[1]? s x
  | .copy, [s, x], some t0 => cCopy E t0 s x
  | .len, [x], some t0 => cLen E t0 x
  | .cap, [x], some t0 => cCap E t0 x
  | .min, [x, y], _ => cMinmax E false ty x y
  | .max, [x, y], _ => cMinmax E true ty x y
  | .clear, [x], some t0 => cClear E t0 x
  | .delete, [m, k], some t0 => cDelete E t0 m k
  | _, _, _ => .bad

def compCall (c : Go.Call) (ty : Nat) : CK := match c.callee with
  | .value (.func f) => cCallF f c.args.toList
  | .value f => cCallV f c.args.toList
  | .builtin b => compB E b ty c.args.toList c.argTypes
  | _ => .bad

def comp (o : Oper) : CK := match o.op with
  | .move x => cMove x
  | .assign x => cMove x
  | .pick c a b => cPick c a b
  | .alloc e => cAlloc E e
  | .box e x => cBox e x
  | .build ty ps => cBuild E ty ps
  | .buildSlice ty len ps => cBuildSlice E ty len ps
  | .load ty a => cLoad E ty a
  | .store ty a x => cStore E ty a x
  | .nilCheck x => cNilCheck x
  | .binOp op ty x y _ => cBin E op ty x y
  | .unOp op _ x => cUn op x
  | .convert src dst x => cConv E src dst x
  | .makeFunc (.func f) first captured => cMakeFunc f first captured
  | .makeMap _ r => cMakeMap r
  | .makeSlice ty l c => cMakeSlice E ty l c
  | .slice ty x lo hi mx => cSlice E ty x lo hi mx
  | .fieldAddr s x f => cFieldAddr E s x f
  | .field xt x f => cField E xt x f
  | .indexAddr ty x i => cIndexAddr E ty x i
  | .index ty x i => cIndex E ty x i
  | .lookup ty x i commaOk => cLookup E ty x i commaOk
  | .mapUpdate ty m k x => cMapUpdate E ty m k x
  | .mapEntry ty m k => cMapEntry E ty m k
  | .entryStore _ m s x => cEntryStore m s x
  | .range ty x => cRange E ty x
  | .next it false => cNext it
  | .entry it => cEntry it
  | .extract x i => cExtract x i
  | .call c => compCall E c o.type
  | _ => .bad

/-! code -/
inductive Rs where
  | ok (x : Nat) (t : T) (h : HS)
  | bad (f r o : Nat)
inductive Cs where
  | ok (v : V) (h : HS)
  | bad (f r o : Nat)

abbrev Run := KF (T → HS → Rs)
abbrev Call := Nat → KF (V → HS → Cs)

def setC (d : Option Tmp) : KF (T → V → T) := match d with
  | some d => (tsetC (α := Option V) 8 d).app fun g => .mk fun t v => g t (some v)
  | none => .mk fun t _ => t

def dstOk (nt : Nat) (d : Option Tmp) : Bool := match d with
  | some d => Nat.ble (Nat.succ d) nt
  | none => true

/-- is the operation carried out? -/
def wantC (ops : List Oper) (g : Option (Nat × Bool)) : Option (T → Option Bool) := match g with
  | none => none
  | some (j, want) => some (match ops[j]? with
    | some oj => (match oj.dst with
      | some d => KF.out ((opdC (.tmp d)).app fun gt => .mk fun t => ob (gt t) fun v => V.rec (motive := fun _ => Option Bool) (fun _ _ => none) (fun _ _ => none) (fun b => some (bi want b (notB b))) (fun _ => none) (fun _ => none) (fun _ _ => none) (fun _ _ => none) (fun _ _ _ _ _ => none)
          none (fun _ => none) (fun _ _ _ _ _ => none) (fun _ _ => none) (fun _ _ => some false) (fun _ => none) none (fun _ _ _ => none) (fun _ _ _ _ _ _ => none) v)
      | none => fun _ => none)
    | none => fun _ => none)

def compOps (call : Call) (nt fn rid : Nat) (ops : List Oper) : Nat → List Oper → Run
  | _, [] => .mk fun t h => .ok 0 t h
  | i, o :: l =>
    bi (dstOk nt o.dst) ((setC o.dst).app fun set =>
    (KF.mk (match comp E o with
      | .pure f => fun (t : T) (h : HS) => Option.rec (motive := fun _ => Rs) (.bad fn rid i) (fun v => (compOps call nt fn rid ops (i + 1) l).app fun k => k (set t v) h) (f t)
      | .read f => fun t h => Option.rec (motive := fun _ => Rs) (.bad fn rid i) (fun v => (compOps call nt fn rid ops (i + 1) l).app fun k => k (set t v) h) (f t h)
      | .alloc f => fun t h => Option.rec (motive := fun _ => Rs) (.bad fn rid i) (fun vh => VH.rec (motive := fun _ => Rs) (fun v h => (compOps call nt fn rid ops (i + 1) l).app fun k => k (set t v) h) vh) (ob (f t) fun bf => h.new (bf.b h.c) bf.v)
      | .eff f => fun t h => Option.rec (motive := fun _ => Rs) (.bad fn rid i) (fun vh => VH.rec (motive := fun _ => Rs) (fun v h' => bi (Nat.ble h.c h'.c) ((compOps call nt fn rid ops (i + 1) l).app fun k => k (set t v) h') (.bad fn rid i)) vh) (f t h)
      | .call f => fun t h => Option.rec (motive := fun _ => Rs) (.bad fn rid i) (fun fa => Cs.rec (motive := fun _ => Rs) (fun v h' => bi (Nat.ble h.c h'.c) ((compOps call nt fn rid ops (i + 1) l).app fun k => k (set t v) h') (.bad fn rid i)) (fun a b c => .bad a b c) ((call fa.f).app fun g => g fa.a h)) (f t)
      | .bad => fun _ _ => .bad fn rid i)).app fun run =>
    match wantC ops o.guard with
    | none => .mk run
    | some w => .mk fun t h => Option.rec (motive := fun _ => Rs) (.bad fn rid i) (fun b => bi b (run t h) ((compOps call nt fn rid ops (i + 1) l).app fun k => k (set t undefV) h)) (w t)) (.mk fun _ _ => .bad fn rid i)

/-! a region whose order is drawn -/
def hasB (m j : Nat) : Bool := Nat.beq (Nat.mod (Nat.shiftRight m j) 2) 1
def memL (n : Nat) : List Nat → Bool
  | [] => false
  | m :: l => bi (Nat.beq n m) true (memL n l)
def maskOf (i : Nat) : List (Nat × Nat) → Nat
  | [] => 0
  | (j, m) :: l => bi (Nat.beq i j) m (maskOf i l)
def edgeM (tab : List (Nat × Nat)) : List Edge → Nat
  | [] => 0
  | e :: l => match Region.binds .any e with
    | true => Nat.lor (Nat.lor (Nat.shiftLeft 1 e.on) (maskOf e.on tab)) (edgeM tab l)
    | false => edgeM tab l
def edgesIn (done : List Nat) (o : Oper) : Bool := o.after.toList.all fun e => notB (Region.binds .any e) || memL e.on done

/-- the first one that may be next, and the rest -/
def pick (ops : List Oper) (done : List Nat) : List Nat → Option (Nat × List Nat)
  | [] => none
  | i :: l => match ops[i]? with
    | some o => (match edgesIn done o with
      | true => some (i, l)
      | false => (match pick ops done l with
        | some (j, r) => some (j, i :: r)
        | none => none))
    | none => none
/-- an order -/
def topo (ops : List Oper) : Nat → List Nat → List Nat → List Nat
  | 0, _, _ => []
  | f + 1, done, l => match pick ops done l with
    | some (i, r) => i :: topo ops f (i :: done) r
    | none => []

/-- what is known of an operation ahead: its number, the numbers that come before it in every order, its kind, the temporaries at which it looks -/
structure DI where
  i : Nat
  o : Oper
  m : Nat
  k : Nat
  looks : List Nat
def kindOf : CK → Nat
  | .pure _ => 0
  | .read _ => 1
  | .alloc _ => 2
  | .eff _ => 3
  | .call _ => 3
  | .bad => 4
def looksOf (ops : List Oper) (o : Oper) : List Nat :=
  (o.op.operands.toList.filterMap fun x => match x with
    | .tmp t => some t
    | _ => none) ++
  (match o.guard with
   | some (g, _) => (match ops[g]? with
     | some og => og.dst.toList
     | none => [])
   | none => [])
def dis (ops : List Oper) : List (Nat × Nat) → List Nat → List DI
  | _, [] => []
  | tab, i :: l => match ops[i]? with
    | some o => fN (edgeM tab o.after.toList) fun m => fN (kindOf (comp E o)) fun k => ⟨i, o, m, k, looksOf ops o⟩ :: dis ops ((i, m) :: tab) l
    | none => []
def topoOk : List Nat → List DI → Bool
  | _, [] => true
  | done, d :: l => edgesIn done d.o && topoOk (d.i :: done) l
def dstIn (d : Option Tmp) (l : List Nat) : Bool := match d with
  | some d => memL d l
  | none => false
def dstEq (a b : Option Tmp) : Bool := match a, b with
  | some a, some b => Nat.beq a b
  | _, _ => false
/-- a comes ahead of b in the order that is carried out -/
def pairOk (a b : DI) : Bool := notB (Nat.beq a.i b.i) && notB (dstEq a.o.dst b.o.dst) &&
  (hasB b.m a.i || notB (dstIn a.o.dst b.looks || dstIn b.o.dst a.looks || (Nat.beq a.k 3 && Nat.beq b.k 3)))
def pwOk : List DI → Bool
  | [] => true
  | a :: l => l.all (pairOk a) && pwOk l
def dZ : DI := ⟨0, { dst := none, op := .alloc 0, type := 0, pos := "", after := #[], guard := none }, 0, 0, []⟩
def dAt (ds : List DI) (p : Nat) : DI := ds.getD p dZ
def isE (ds : List DI) (p : Nat) : Bool := Nat.beq (dAt ds p).k 3
/-- can the operation at j be carried out while the effect at q is the next one? -/
def possible (ds : List DI) (j q : Nat) : Bool := (List.range ds.length).all fun r => notB (isE ds r) || bi (Nat.ble q r) (notB (hasB (dAt ds j).m (dAt ds r).i)) (notB (hasB (dAt ds r).m (dAt ds j).i))
/-- is no effect between them? -/
def lexical (ds : List DI) (j q : Nat) : Bool := Nat.ble j q && (List.range ds.length).all fun r => notB (isE ds r) || notB (Nat.ble j r && Nat.ble (Nat.succ r) q)
def recheck (ds : List DI) : List (Nat × Nat) :=
  (List.range ds.length).flatMap fun j => bi (Nat.beq (dAt ds j).k 1) ((List.range (ds.length + 1)).filterMap fun q =>
    bi ((Nat.beq q ds.length || isE ds q) && possible ds j q && notB (lexical ds j q)) (some (j, q)) none) []

structure Ent where
  o : Oper
  t : T
  h : HS
  w : Bool
  v : V
def hAt (tr : List Ent) (h : HS) (q : Nat) : HS := match tr[q]? with
  | some e => e.h
  | none => h
def rechk (tr : List Ent) (h : HS) (jq : Nat × Nat) : Bool := match tr[jq.1]? with
  | some e => (match e.w with
    | true => (match comp E e.o with
      | .read f => (match f e.t (hAt tr h jq.2) with
        | some v => decide (v = e.v)
        | none => false)
      | _ => false)
    | false => true)
  | none => false
def isNoneB (b : Option Blk) : Bool := Option.rec (motive := fun _ => Bool) true (fun _ => false) b
/-- nothing lies yet where the operation at r makes its block -/
def freshAt (tr : List Ent) (h : HS) (r : Nat) : Bool := (List.range (r + 1)).all fun p => isNoneB ((hAt tr h p).get (hAt tr h r).c)

def stepK (call : Call) : CK → T → HS → Option VH
  | .pure f => fun t h => ob (f t) fun v => some (VH.mk v h)
  | .read f => fun t h => ob (f t h) fun v => some (VH.mk v h)
  | .alloc f => fun t h => ob (f t) fun bf => h.new (bf.b h.c) bf.v
  | .eff f => f
  | .call f => fun t h => ob (f t) fun fa => Cs.rec (motive := fun _ => Option VH) (fun v h => some (VH.mk v h)) (fun _ _ _ => none) ((call fa.f).out fa.a h)
  | .bad => fun _ _ => none

def compD (call : Call) (nt fn rid : Nat) (ops : List Oper) (fin : List Ent → HS → Bool) : List DI → KF (T → HS → List Ent → Rs)
  | [] => .mk fun t h s => bi (fin s h) (.ok 0 t h) (.bad fn rid 99990)
  | d :: l =>
    bi (dstOk nt d.o.dst) ((setC d.o.dst).app fun set => (KF.mk (stepK call (comp E d.o))).app fun step => (compD call nt fn rid ops fin l).app fun k =>
    match wantC ops d.o.guard with
    | none => .mk fun t h s => Option.rec (motive := fun _ => Rs) (.bad fn rid d.i) (fun vh => VH.rec (motive := fun _ => Rs) (fun v h' => bi (Nat.ble h.c h'.c) (k (set t v) h' (⟨d.o, t, h, true, v⟩ :: s)) (.bad fn rid d.i)) vh) (step t h)
    | some w => .mk fun t h s => Option.rec (motive := fun _ => Rs) (.bad fn rid d.i) (fun b => bi b
        (Option.rec (motive := fun _ => Rs) (.bad fn rid d.i) (fun vh => VH.rec (motive := fun _ => Rs) (fun v h' => bi (Nat.ble h.c h'.c) (k (set t v) h' (⟨d.o, t, h, true, v⟩ :: s)) (.bad fn rid d.i)) vh) (step t h))
        (k (set t undefV) h (⟨d.o, t, h, false, undefV⟩ :: s))) (w t)) (.mk fun _ _ _ => .bad fn rid d.i)

def drawnOk (ops : List Oper) (ds : List DI) : Bool := topoOk [] ds && pwOk ds && ((List.range ops.length).all fun i => memL i (ds.map (·.i))) && notB (ds.any fun d => Nat.beq d.k 4)
def allocsOf (ds : List DI) : List Nat := (List.range ds.length).filter fun r => Nat.beq (dAt ds r).k 2
def finD (ds : List DI) (s : List Ent) (h : HS) : Bool := (recheck ds).all (rechk E s.reverse h) && (allocsOf ds).all (freshAt s.reverse h)

def compDrawn (call : Call) (nt fn rid : Nat) (ops : List Oper) : Run :=
  (KF.mk (dis E ops [] (topo ops ops.length [] (List.range ops.length)))).app fun ds =>
  bi (drawnOk ops ds) ((compD E call nt fn rid ops (finD E ds) ds).app fun k => .mk fun t h => k t h []) (.mk fun _ _ => .bad fn rid 99991)

def firstRegion : Code → Option Nat
  | .region id _ _ => some id
  | .seq a _ => firstRegion a
  | .block _ c | .loop c | .scope c => firstRegion c
  | _ => none

def loopRun (g : T → HS → Rs) (fuel : Nat) : T → HS → Rs :=
  Nat.rec (motive := fun _ => T → HS → Rs) (fun _ _ => .bad 0 0 99999) (fun _ ih t h => Rs.rec (motive := fun _ => Rs) (fun x t h => bi (Nat.beq x 0) (ih t h) (.ok x t h)) (fun a b c => .bad a b c) (g t h)) fuel

abbrev LOv := Nat → Nat → Option (T → HS → Rs)
def loopOv (lov : LOv) (fn : Nat) (b : Code) : Option (T → HS → Rs) := match firstRegion b with
  | some r => lov fn r
  | none => none
abbrev FOv := Nat → Option (V → HS → Cs)

def compCode (call : Call) (lov : LOv) (nt fn : Nat) : Code → Run
  | .skip => .mk fun t h => .ok 0 t h
  | .label _ => .mk fun t h => .ok 0 t h
  | .ret => .mk fun t h => .ok 1 t h
  | .exit id => .mk fun t h => .ok (id + 2) t h
  | .region id ops false => compOps E call nt fn id ops.toList 0 ops.toList
  | .region id ops true => compDrawn E call nt fn id ops.toList
  | .seq a b => .mk fun t h => Rs.rec (motive := fun _ => Rs) (fun x t h => bi (Nat.beq x 0) ((compCode call lov nt fn b).app fun g => g t h) (.ok x t h)) (fun a b c => .bad a b c) ((compCode call lov nt fn a).app fun g => g t h)
  | .cond c a b => (opdC c).app fun g => .mk fun t h => Option.rec (motive := fun _ => Rs) (.bad fn 0 88888) (fun x => bi x ((compCode call lov nt fn a).app fun g => g t h) ((compCode call lov nt fn b).app fun g => g t h)) (ob (g t) fun v => onBool v some)
  | .block id b => .mk fun t h => Rs.rec (motive := fun _ => Rs) (fun x t h => bi (Nat.beq x (id + 2)) (.ok 0 t h) (.ok x t h)) (fun a b c => .bad a b c) ((compCode call lov nt fn b).app fun g => g t h)
  | .loop b => (match loopOv lov fn b with
    | some g => .mk g
    | none => .mk (loopRun (fun t h => (compCode call lov nt fn b).app fun g => g t h) 1000000))
  | .scope b => .mk fun t h => (compCode call lov nt fn b).app fun g => g t h
  | _ => .mk fun _ _ => .bad fn 0 77777

def resC : List ResultVar → KF (T → HS → Option V)
  | [] => .mk fun _ _ => some .nil
  | r :: l => (match r with
    | .tmp d => (opdC (.tmp d)).app fun g => KF.mk fun (t : T) (_ : HS) => g t
    | .cell a ty => (opdC (.tmp a)).app fun g => (loadC E ty).app fun ld => .mk fun t h => ob (g t) fun p => ld p h).app fun g1 =>
    (match l with
    | [] => .mk g1
    | l => (resC l).app fun gs => .mk fun t h => ob (g1 t h) fun v => ob (gs t h) fun vs => some (.cat 1 (l.length + 1) v vs))

def bindC : Nat → Nat → KF (V → T → Option T)
  | _, 0 => .mk fun _ t => some t
  | i, n + 1 => (tsetC (α := Option V) 8 i).app fun s => (bindC (i + 1) n).app fun k => .mk fun a t => ob (a.get i) fun v => k a (s t (some v))

def evalFn (fov : FOv) (lov : LOv) : Nat → Call
  | 0, _ => .mk fun _ _ => .bad 0 0 66666
  | d + 1, f => match fov f with
    | some g => .mk g
    | none => (match E.fn f with
      | some fn => (match fn.body with
        | some body =>
          bi (Nat.ble fn.ntmps 256 && Nat.ble (fn.params.size + fn.nfree) fn.ntmps)
          ((bindC 0 (fn.params.size + fn.nfree)).app fun bind => (resC E fn.results.toList).app fun res =>
          (KF.mk (match fn.results.size with
            | 1 => fun v => v
            | _ => V.tup)).app fun fin =>
          (KF.mk (fn.params.size + fn.nfree)).app fun na => .mk fun a h => bi (Nat.beq a.size na) (Option.rec (motive := fun _ => Cs) (.bad f 0 55555)
            (fun t => Rs.rec (motive := fun _ => Cs) (fun x t h => bi (Nat.ble x 1) (Option.rec (motive := fun _ => Cs) (.bad f 0 44444) (fun v => .ok (fin v) h) (res t h)) (.bad f 0 33333)) (fun a b c => .bad a b c)
              ((compCode E (evalFn fov lov d) lov fn.ntmps f body).app fun g => g t h)) (bind a (NT.fill none 8))) (.bad f 0 22223)) (.mk fun _ _ => .bad f 0 22222)
        | none => .mk fun _ _ => .bad f 0 11111)
      | none => .mk fun _ _ => .bad f 0 11112)
end
end Go.AE
