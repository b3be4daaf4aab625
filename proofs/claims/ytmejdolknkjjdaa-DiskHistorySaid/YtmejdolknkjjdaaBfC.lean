/-
  The operations that only read: what each yields, and that it does so. Nothing is claimed here.
-/
import Derived.Test.YtmejdolknkjjdaaBfB
namespace Go.Bf
open Go Go.RowKit
variable {P : Program}

abbrev R := Option (Prop × SV)

/-- So many of the same: never written out. -/
def repl {α : Type} (n : Nat) (x : α) : List α := List.replicate n x
theorem repl_eq {α : Type} (n : Nat) (x : α) : repl n x = List.replicate n x := rfl
@[simp] theorem repl_length {α : Type} (n : Nat) (x : α) : (repl n x).length = n := List.length_replicate

/-- The rows of a slice that is known, and the bound of its capacity where that is known. -/
def chunk (wd : Nat) : Nat → List DV → List (List DV)
  | 0, _ => []
  | n + 1, ds => ds.take wd :: chunk wd n (ds.drop wd)

theorem chunk_one (n : Nat) (ds : List DV) (h : n = ds.length) : chunk 1 n ds = ds.map fun d => [d] := by
  induction n generalizing ds with
  | zero => cases ds <;> simp_all [chunk]
  | succ n ih =>
    cases ds with
    | nil => simp at h
    | cons d ds => simp [chunk, ih ds (by simpa using h)]

/-- The cells of an own slice. -/
def ownCells (mem : Mem) (b wd off len : Nat) : Option (List SV) :=
  match mem b with
  | .live _ cells => some ((cells.drop off).take (len * wd))
  | _ => none

def lenF (mem : Mem) : SV → Option Nat
  | .d (.list xs) => some xs.length
  | .clip xs => some xs.length
  | .own b _ _ len _ => match mem b with
    | .live _ _ => some len
    | _ => none
  | _ => none

def lenS : SV → Option Nat
  | .d (.str s) => some s.length
  | _ => none

def rdO (rd : Operand → Option SV) : Option Operand → Option (Option SV)
  | none => some none
  | some u => (rd u).map some

def intOf' : SV → Option (IntKind × Int)
  | .d (.int k n) => some (k, n)
  | _ => none

/-- What stands for a value where there is none. -/
def dflt : TK → DV
  | .bool => .bool false
  | .int k => .int k 0
  | .str => .str []
  | .slice _ => .list []
  | _ => .nilp
/-- One cell of a row; one cell of a local block. -/
def loadRow (k : TK) : List DV → R
  | d :: _ => some (True, .d d)
  | [] => some (False, .d (dflt k))
def loadCell (k : TK) : Option SV → R
  | some c => some (True, c)
  | none => some (False, .d (dflt k))
@[simp] theorem loadRow_cons (k : TK) (d : DV) (ds : List DV) : loadRow k (d :: ds) = some (True, .d d) := rfl
@[simp] theorem loadRow_nil (k : TK) : loadRow k [] = some (False, .d (dflt k)) := rfl
@[simp] theorem loadCell_some (k : TK) (c : SV) : loadCell k (some c) = some (True, c) := rfl
@[simp] theorem loadCell_none (k : TK) : loadCell k none = some (False, .d (dflt k)) := rfl
def loadF (P : Program) (mem : Mem) (t : TypeId) : SV → R
  | .loc b off =>
    match mem b with
    | .live _ cells =>
      match lkOf P t with
      | .agg n => some (off + n ≤ cells.length, mkAgg ((cells.drop off).take n))
      | .one => loadCell (tk P t) cells[off]?
      | .bad => none
    | _ => none
  | .d (.ptr ds) =>
    match lkOf P t with
    | .agg n => some (n ≤ ds.length, .d (.agg (ds.take n)))
    | .one => loadRow (tk P t) ds
    | .bad => none
  | _ => none

def fieldAddrF (P : Program) (mem : Mem) (t : TypeId) (f : Nat) (s : SV) : R :=
  match tk P t with
  | .struct fs _ =>
    match fs[f]? with
    | some (_, .bad) => none
    | some (o, _) =>
      match s with
      | .loc b off => match mem b with
        | .live _ _ => some (True, .loc b (off + o))
        | _ => none
      | .d (.ptr ds) => some (o ≤ ds.length, .d (.ptr (ds.drop o)))
      | _ => none
    | none => none
  | _ => none

def fieldF (P : Program) (t : TypeId) (f : Nat) (s : SV) : R :=
  match tk P t with
  | .struct fs _ =>
    match fs[f]? with
    | some (o, .agg n) =>
      match s with
      | .d (.agg ds) => some (True, .d (.agg ((ds.drop o).take n)))
      | .agg ds => some (True, mkAgg ((ds.drop o).take n))
      | _ => none
    | some (o, .one) =>
      match s with
      | .d (.agg ds) => match ds[o]? with
          | some d => some (True, .d d)
          | none => none
      | .agg ds => match ds[o]? with
          | some d => some (True, d)
          | none => none
      | _ => none
    | _ => none
  | _ => none

def indexAddrF (P : Program) (mem : Mem) (t : TypeId) (s i : SV) : R :=
  match intOf' i with
  | some (_, i) =>
    match tk P t with
    | .slice e =>
      match s with
      | .d (.list xs) => some (0 ≤ i ∧ i < xs.length ∧ (xs.getD i.toNat []).length = e.sz, .d (.ptr (xs.getD i.toNat [])))
      | .clip xs => some (0 ≤ i ∧ i < xs.length ∧ (xs.getD i.toNat []).length = e.sz, .d (.ptr (xs.getD i.toNat [])))
      | .own b wd off len _ => match mem b with
        | .live _ _ => some (0 ≤ i ∧ i < (len : Int) ∧ wd = e.sz, .loc b (off + i.toNat * wd))
        | _ => none
      | _ => none
    | .arr n e _ =>
      match s with
      | .loc b off => match mem b with
        | .live _ _ => some (0 ≤ i ∧ i < (n : Int), .loc b (off + i.toNat * e.sz))
        | _ => none
      | .d (.ptr ds) => some (0 ≤ i ∧ i < (n : Int) ∧ i.toNat * e.sz ≤ ds.length, .d (.ptr (ds.drop (i.toNat * e.sz))))
      | _ => none
    | _ => none
  | none => none

def indexF (P : Program) (t : TypeId) (s i : SV) : R :=
  match intOf' i with
  | some (_, i) =>
    match tk P t, s with
    | .str, .d (.str l) => some (0 ≤ i ∧ i < l.length, .d (.int .u8 (l.getD i.toNat 0).toNat))
    | .arr n e _, .d (.agg ds) =>
      match e.lk with
      | .one => some (0 ≤ i ∧ i < (n : Int) ∧ n ≤ ds.length, .d (ds.getD i.toNat .nilp))
      | _ => none
    | _, _ => none
  | none => none

/-- A slice of rows whose width is known holds rows of that width. -/
def Wide (wd : Nat) (xs : List (List DV)) : Prop := ∀ r ∈ xs, r.length = wd

def boundF (lo : Option SV) (dflt : Int) : Option Int :=
  match lo with
  | none => some dflt
  | some s => (intOf' s).map (·.2)

def sliceListF (P : Program) (t : TypeId) (xs : List (List DV)) (lo hi mx : Option SV) : R :=
  match tk P t, boundF lo 0, boundF hi xs.length with
  | .slice e, some a, some b =>
    match mx with
    | none => some (0 ≤ a ∧ a ≤ b ∧ b ≤ xs.length ∧ Wide e.sz xs, .d (.list ((xs.take b.toNat).drop a.toNat)))
    | some m =>
      match intOf' m, hi with
      | some (_, m), some _ => some (0 ≤ a ∧ a ≤ b ∧ b = m ∧ m ≤ xs.length ∧ Wide e.sz xs, .clip ((xs.take b.toNat).drop a.toNat))
      | _, _ => none
  | _, _, _ => none

/-- A slice expression. -/
def sliceF (P : Program) (mem : Mem) (t : TypeId) (s : SV) (lo hi mx : Option SV) : R :=
  match s with
  | .d (.str l) =>
    match tk P t, mx, boundF lo 0, boundF hi l.length with
    | .str, none, some a, some b => some (0 ≤ a ∧ a ≤ b ∧ b ≤ l.length, .d (.str ((l.take b.toNat).drop a.toNat)))
    | _, _, _, _ => none
  | .d (.list xs) => sliceListF P t xs lo hi mx
  | .clip xs => sliceListF P t xs lo hi mx
  | .own b wd off len _ =>
    match tk P t, mem b, boundF lo 0, boundF hi len, mx with
    | .slice e, .live _ _, some l, some h, none => some (0 ≤ l ∧ l ≤ h ∧ h ≤ (len : Int) ∧ (l = 0 ∨ l < (len : Int)) ∧ wd = e.sz, .own b wd (off + l.toNat * wd) (h.toNat - l.toNat) none)
    | _, _, _, _, _ => none
  | .loc b off =>
    match tk P t, mem b, boundF lo 0, mx with
    | .arr n e _, .live _ cells, some l, none =>
      match boundF hi n with
      | some h => some (0 ≤ l ∧ l ≤ h ∧ h ≤ (n : Int) ∧ (l = 0 ∨ l < (n : Int)) ∧ n ≤ maxLen ∧ off + n * e.sz ≤ cells.length, .own b e.sz (off + l.toNat * e.sz) (h.toNat - l.toNat) none)
      | none => none
    | _, _, _, _ => none
  | _ => none

def bitF (op : BinOp) (k : IntKind) (x y : Int) : Int :=
  let a := BitVec.ofInt k.bits x
  let b := BitVec.ofInt k.bits y
  match op with
  | .and => k.wrap (a &&& b).toNat
  | .or => k.wrap (a ||| b).toNat
  | .xor => k.wrap (a ^^^ b).toNat
  | _ => k.wrap (a &&& ~~~b).toNat

def binInt (op : BinOp) (k : IntKind) (a b : Int) : R :=
  match op with
  | .add => some (True, .d (.int k (k.wrap (a + b))))
  | .sub => some (True, .d (.int k (k.wrap (a - b))))
  | .mul => some (True, .d (.int k (k.wrap (a * b))))
  | .quo => some (b ≠ 0, .d (.int k (k.wrap (a.tdiv b))))
  | .rem => some (b ≠ 0, .d (.int k (a.tmod b)))
  | .and => some (True, .d (.int k (bitF .and k a b)))
  | .or => some (True, .d (.int k (bitF .or k a b)))
  | .xor => some (True, .d (.int k (bitF .xor k a b)))
  | .andNot => some (True, .d (.int k (bitF .andNot k a b)))
  | .eql => some (True, .d (.bool (decide (a = b))))
  | .neq => some (True, .d (.bool (!decide (a = b))))
  | .lss => some (True, .d (.bool (decide (a < b))))
  | .leq => some (True, .d (.bool (decide (a ≤ b))))
  | .gtr => some (True, .d (.bool (decide (b < a))))
  | .geq => some (True, .d (.bool (decide (b ≤ a))))
  | .shl => some (0 ≤ b, .d (.int k (k.wrap (a * 2 ^ (min b.toNat k.bits)))))
  | .shr => some (0 ≤ b, .d (.int k (a.fdiv (2 ^ (min b.toNat k.bits)))))

def isShift : BinOp → Bool
  | .shl | .shr => true
  | _ => false

def binF (P : Program) (op : BinOp) (t : TypeId) (x y : SV) : R :=
  match x, y with
  | .d (.int k a), .d (.int k' b) => if isShift op || decide (k = k') then binInt op k a b else none
  | .d (.bool a), .d (.bool b) =>
    match tk P t, op with
    | .bool, .eql => some (True, .d (.bool (a == b)))
    | .bool, .neq => some (True, .d (.bool (!(a == b))))
    | _, _ => none
  | .d (.str a), .d (.str b) =>
    match op with
    | .add => some (a.length + b.length ≤ maxLen, .d (.str (a ++ b)))
    | .eql => some (True, .d (.bool (decide (a = b))))
    | .neq => some (True, .d (.bool (!decide (a = b))))
    | .lss => some (True, .d (.bool (Op.bytesLess a b)))
    | .leq => some (True, .d (.bool (Op.bytesLess a b || decide (a = b))))
    | .gtr => some (True, .d (.bool (!(Op.bytesLess a b || decide (a = b)))))
    | .geq => some (True, .d (.bool (!Op.bytesLess a b)))
    | _ => none
  | _, _ => none

def unF (op : UnOp) (x : SV) : R :=
  match op, x with
  | .not, .d (.bool b) => some (True, .d (.bool (!b)))
  | .neg, .d (.int k n) => some (True, .d (.int k (k.wrap (0 - n))))
  | .xor, .d (.int k n) => some (True, .d (.int k (bitF .xor k (if k.signed then -1 else k.max) n)))
  | _, _ => none

/-- The bytes that rows of one cell each are. -/
def bytesOf : List (List DV) → List UInt8
  | [.int .u8 n] :: r => UInt8.ofNat n.toNat :: bytesOf r
  | _ :: r => 0 :: bytesOf r
  | [] => []
def IsBytes (xs : List (List DV)) : Prop := ∀ r ∈ xs, ∃ n, r = [.int .u8 n]

def cB (c : UInt8) : DV := .int .u8 c.toNat
def rowB (c : UInt8) : List DV := [cB c]
/-- A slice of bytes. -/
def encB (l : List UInt8) : DV := .list (l.map rowB)

theorem bytesOf_map (l : List UInt8) : bytesOf (l.map rowB) = l := by
  induction l with
  | nil => rfl
  | cons c l ih => simp [bytesOf, rowB, cB, ih]
theorem isBytes_map (l : List UInt8) : IsBytes (l.map rowB) := by
  intro r hr
  obtain ⟨c, _, rfl⟩ := List.mem_map.1 hr
  exact ⟨_, rfl⟩

/-- Surely no interface type. -/
def TK.conc : TK → Bool
  | .bool | .int _ | .str | .slice _ | .struct _ _ | .arr _ _ _ => true
  | _ => false

def TK.ok : TK → Bool
  | .bad => false
  | _ => true

def convF (P : Program) (mem : Mem) (src dst : TypeId) (x : SV) : R :=
  match tk P dst, x with
  | .int k, .d (.int _ n) => if (tk P src).ok then some (True, .d (.int k (k.wrap n))) else none
  | .str, .d (.str s) => if (tk P src).ok then some (True, .d (.str s)) else none
  | .str, .d (.list xs) =>
    match tk P src with
    | .slice e => if e.u8 then some (IsBytes xs, .d (.str (bytesOf xs))) else none
    | _ => none
  | .str, .clip xs =>
    match tk P src with
    | .slice e => if e.u8 then some (IsBytes xs, .d (.str (bytesOf xs))) else none
    | _ => none
  | .str, .own b wd off len _ =>
    match tk P src with
    | .slice e => if e.u8 then match ownCells mem b wd off len with
      | some cells => match allD cells with
        | some ds => some (IsBytes (ds.map fun d => [d]) ∧ wd = 1 ∧ ds.length = len, .d (.str (bytesOf (ds.map fun d => [d]))))
        | none => none
      | none => none
      else none
    | _ => none
  | _, _ => none

def extractF (i : Nat) : SV → R
  | .d (.tup ds) => (ds[i]?).map fun d => (True, .d d)
  | _ => none

/-- The operations that only read, and are no call of a function: what must hold, and what is yielded. -/
def opP (P : Program) (mem : Mem) (rd : Operand → Option SV) : Op → R
  | .move x => (rd x).map fun s => (True, s)
  | .assign x => (rd x).map fun s => (True, s)
  | .load t x => (rd x).bind (loadF P mem t)
  | .fieldAddr t x f => (rd x).bind (fieldAddrF P mem t f)
  | .field t x f => (rd x).bind (fieldF P t f)
  | .indexAddr t x i => (rd x).bind fun s => (rd i).bind fun j => indexAddrF P mem t s j
  | .index t x i => (rd x).bind fun s => (rd i).bind fun j => indexF P t s j
  | .slice t x lo hi mx => (rd x).bind fun s => (rdO rd lo).bind fun l => (rdO rd hi).bind fun h => (rdO rd mx).bind fun m => sliceF P mem t s l h m
  | .binOp op t x y _ => (rd x).bind fun a => (rd y).bind fun b => binF P op t a b
  | .unOp op _ x => (rd x).bind (unF op)
  | .convert s d x => (rd x).bind (convF P mem s d)
  | .extract x i => (rd x).bind (extractF i)
  | .makeInterface t x => match rd x with
    | some (.d d) => if (tk P t).conc then some (True, .d (.iface t d)) else none
    | _ => none
  | .makeFunc (.func f) first captured =>
    if first = #[] then
      match captured.toList.mapM rd with
      | some cs => some (True, match allD cs with | some ds => .d (.fn f ds) | none => .clo f cs)
      | none => none
    else none
  | .call { callee := .builtin .len, args := args, argTypes := ts } =>
    match args.toList, ts.toList with
    | [x], [t] => match tk P t with
      | .arr n _ _ => some (n ≤ maxLen, .d (.int .i64 n))
      | .slice _ => ((rd x).bind (lenF mem)).map fun (n : Nat) => (True, SV.d (.int .i64 (n : Int)))
      | .str => ((rd x).bind lenS).map fun (n : Nat) => (True, SV.d (.int .i64 (n : Int)))
      | _ => none
    | _, _ => none
  | _ => none

end Go.Bf
