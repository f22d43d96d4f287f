/- Own text: the evaluator. -/
import Derived.Test.YtlofmgdjnaajjaaEv1
namespace Go.Ev
open Go Go.RowKit
set_option linter.unusedVariables false

inductive Blk where
  | cells (l : List AV)
  | arr (sz n : Nat) (f : Nat → List AV)

def look {α : Type} : List (Nat × α) → Nat → Option α
  | [], _ => none
  | (k, v) :: r, t => match Nat.beq k t with
    | true => some v
    | false => look r t

abbrev Env := List (Nat × AV)
abbrev Heap := List (Nat × Option Blk)

structure St where
  env : Env
  heap : Heap
  next : Nat

def Heap.live (h : Heap) (b : Nat) : Option Blk := match look h b with
  | some (some k) => some k
  | _ => none
def St.set (s : St) (t : Option Tmp) (v : AV) : St := match t with
  | some t => { s with env := (t, v) :: s.env }
  | none => s

def AV.cells : AV → List AV
  | .agg cs => cs
  | a => [a]
def AV.one : AV → Bool
  | .v x => x.oneCell'
  | .agg _ => false
  | .tup _ => false
  | .any => false
  | _ => true
def aOnes : List AV → Bool
  | [] => true
  | a :: r => a.one && aOnes r
def ofVal : Value → AV
  | .agg cs => .agg (cs.toList.map AV.v)
  | .func f a b => match a.size, b.size with
    | 0, 0 => .fn f [] []
    | _, _ => .v (.func f a b)
  | x => .v x
/-- A constant that may stand as it is: its cells are single. -/
def constOk : Value → Bool
  | .agg cs => cs.toList.all (·.oneCell')
  | x => true
def opA (env : Env) : Operand → Option AV
  | .tmp t => look env t
  | .const x => match constOk x with
    | true => some (ofVal x)
    | false => none
  | .global g => some (.v (.pointer (some ⟨g, 0, none⟩)))
  | .func f => some (.fn (.func f) [] [])
def opAs (env : Env) : List Operand → Option (List AV)
  | [] => some []
  | x :: r => match opA env x, opAs env r with
    | some a, some as => some (a :: as)
    | _, _ => none

section
variable (P : Program)
def aggT (t : TypeId) : Option Bool := match P.underlying t with
  | some (.struct _) => some true
  | some (.array _ _) => some true
  | some _ => some false
  | none => none
def sizeT (t : TypeId) : Option Nat := match P.info? t with
  | some i => some i.size
  | none => none
def zeroT (t : TypeId) : Option (List AV) := match P.info? t with
  | some i => match i.zero with
    | some z => match z.cells.toList.all (·.oneCell') with
      | true => some (z.cells.toList.map AV.v)
      | false => none
    | none => none
  | none => none
/-- The part of type t in cells. -/
def partA (t : TypeId) (cs : List AV) (off : Nat) : Option AV := match aggT P t with
  | some true => match sizeT P t with
    | some n => match Nat.ble (off + n) cs.length with
      | true => some (.agg ((cs.drop off).take n))
      | false => none
    | none => none
  | some false => cs[off]?
  | none => none
def setAt (cs : List AV) (off : Nat) (vs : List AV) : List AV := cs.take off ++ (vs ++ cs.drop (off + vs.length))
def kindEq (k k' : IntKind) : Bool := decide (k = k')
def intBitsV (op : BinOp) (k : IntKind) (x y : Int) : Int :=
  k.wrap (match op with
    | .and => (BitVec.ofInt k.bits x &&& BitVec.ofInt k.bits y)
    | .or => (BitVec.ofInt k.bits x ||| BitVec.ofInt k.bits y)
    | .xor => (BitVec.ofInt k.bits x ^^^ BitVec.ofInt k.bits y)
    | _ => (BitVec.ofInt k.bits x &&& ~~~ BitVec.ofInt k.bits y)).toNat
/-- Arithmetic of two integers of one kind. -/
def binI (op : BinOp) (k : IntKind) (a b : Int) (K : Value → Prop) : Prop := match op with
  | .add => K (.int k (k.wrap (a + b)))
  | .sub => K (.int k (k.wrap (a - b)))
  | .mul => K (.int k (k.wrap (a * b)))
  | .quo => b ≠ 0 ∧ K (.int k (k.wrap (a.tdiv b)))
  | .rem => b ≠ 0 ∧ K (.int k (a.tmod b))
  | .and => K (.int k (intBitsV .and k a b))
  | .or => K (.int k (intBitsV .or k a b))
  | .xor => K (.int k (intBitsV .xor k a b))
  | .andNot => K (.int k (intBitsV .andNot k a b))
  | .eql => K (.bool (a == b))
  | .neq => K (.bool (a != b))
  | .lss => K (.bool (decide (a < b)))
  | .leq => K (.bool (decide (a ≤ b)))
  | .gtr => K (.bool (decide (a > b)))
  | .geq => K (.bool (decide (a ≥ b)))
  | _ => False
def shl (op : BinOp) (k : IntKind) (a b : Int) (K : Value → Prop) : Prop := match op with
  | .shl => 0 ≤ b ∧ K (.int k (k.wrap (a * 2 ^ min b.toNat k.bits)))
  | .shr => 0 ≤ b ∧ K (.int k (a.fdiv (2 ^ min b.toNat k.bits)))
  | _ => False
mutual
/-- Are two values equal, as '==' has it. -/
def eqV : Nat → TypeId → AV → AV → Option Bool
  | 0, _, _, _ => none
  | d + 1, t, x, y => match P.underlying t, x, y with
    | some .bool, .v (.bool a), .v (.bool b) => some (a == b)
    | some (.int _), .v (.int k a), .v (.int k' b) => match kindEq k k' with
      | true => some (a == b)
      | false => none
    | some .string, .v (.string a), .v (.string b) => some (a == b)
    | some (.struct fs), .agg xs, .agg ys => match P.stoodInHeld t with
      | false => eqFs d fs.toList xs ys
      | true => none
    | some (.array n e), .agg xs, .agg ys => match sizeT P e with
      | some z => eqEs d e z n 0 xs ys
      | none => none
    | _, _, _ => none
def eqFs : Nat → List Field → List AV → List AV → Option Bool
  | 0, _, _, _ => none
  | d + 1, [], _, _ => some true
  | d + 1, f :: fs, xs, ys => match f.name == "_" with
    | true => eqFs d fs xs ys
    | false => match partA P f.type xs f.offset, partA P f.type ys f.offset with
      | some a, some b => match eqV d f.type a b, eqFs d fs xs ys with
        | some r, some q => some (r && q)
        | _, _ => none
      | _, _ => none
def eqEs : Nat → TypeId → Nat → Nat → Nat → List AV → List AV → Option Bool
  | 0, _, _, _, _, _, _ => none
  | d + 1, e, z, 0, i, _, _ => some true
  | d + 1, e, z, n + 1, i, xs, ys => match partA P e xs (i * z), partA P e ys (i * z) with
    | some a, some b => match eqV d e a b, eqEs d e z n (i + 1) xs ys with
      | some r, some q => some (r && q)
      | _, _ => none
    | _, _ => none
end
def binA (op : BinOp) (t : TypeId) (x y : AV) (K : Value → Prop) : Prop := match x, y with
  | .v (.int k a), .v (.int k' b) => match op with
    | .shl => shl .shl k a b K
    | .shr => shl .shr k a b K
    | op => match kindEq k k' with
      | true => binI op k a b K
      | false => False
  | .v (.bool a), .v (.bool b) => match P.underlying t, op with
    | some .bool, .eql => K (.bool (a == b))
    | some .bool, .neq => K (.bool (a != b))
    | _, _ => False
  | .v (.string a), .v (.string b) => match op with
    | .eql => K (.bool (a == b))
    | .neq => K (.bool (a != b))
    | _ => False
  | .agg xs, .agg ys => match P.eqGuardType P.depth t, op, eqV P 40 t (.agg xs) (.agg ys) with
    | false, .eql, some r => K (.bool r)
    | false, .neq, some r => K (.bool (!r))
    | _, _, _ => False
  | _, _ => False
def unA (op : UnOp) (x : AV) (K : Value → Prop) : Prop := match op, x with
  | .not, .v (.bool b) => K (.bool (!b))
  | .neg, .v (.int k n) => K (.int k (k.wrap (0 - n)))
  | .xor, .v (.int k n) => K (.int k (intBitsV .xor k (if k.signed then -1 else k.max) n))
  | _, _ => False
def convA (src dst : TypeId) (x : AV) (K : Value → Prop) : Prop := match x, P.underlying src, P.underlying dst with
  | .v (.int k n), some (.int _), some (.int k') => K (.int k' (k'.wrap n))
  | _, _, _ => False
def foldA (f : Int → Int → Int) : Int → List AV → Option Int
  | a, [] => some a
  | a, .v (.int _ b) :: r => foldA f (f a b) r
  | _, _ => none
def maxA : List AV → Option (IntKind × Int)
  | .v (.int k a) :: r => match foldA (fun x y => max x y) a r with
    | some n => some (k, n)
    | none => none
  | _ => none
def minA : List AV → Option (IntKind × Int)
  | .v (.int k a) :: r => match foldA (fun x y => min x y) a r with
    | some n => some (k, n)
    | none => none
  | _ => none
/-- Places of a struct's fields, or of an array's elements. -/
def placesF : List Field → Option (List (Nat × Nat))
  | [] => some []
  | f :: r => match sizeT P f.type, placesF r with
    | some n, some l => some ((f.offset, n) :: l)
    | _, _ => none
def placeA (t : TypeId) : Option (Nat → Option (Nat × Nat)) := match P.underlying t with
  | some (.struct fs) => match placesF P fs.toList with
    | some l => some fun i => l[i]?
    | none => none
  | some (.array n e) => match sizeT P e with
    | some z => some fun i => some (i * z, z)
    | none => none
  | _ => none
def fillA (place : Nat → Option (Nat × Nat)) : List (Nat × AV) → List AV → Option (List AV)
  | [], cs => some cs
  | (i, v) :: r, cs => match place i with
    | some (off, n) => match Nat.beq v.cells.length n, Nat.ble (off + n) cs.length, aOnes v.cells with
      | true, true, true => fillA place r (setAt cs off v.cells)
      | _, _, _ => none
    | none => none
def partsA (env : Env) : List (Nat × Operand) → Option (List (Nat × AV))
  | [] => some []
  | (i, x) :: r => match opA env x, partsA env r with
    | some a, some as => some ((i, a) :: as)
    | _, _ => none
/-- The elements of a slice literal: each named once, in order. -/
def elemsA (sz : Nat) : Nat → List (Nat × AV) → Option (List (List AV))
  | _, [] => some []
  | k, (i, v) :: r => match Nat.beq i k, Nat.beq v.cells.length sz, aOnes v.cells, elemsA sz (k + 1) r with
    | true, true, true, some l => some (v.cells :: l)
    | _, _, _, _ => none
/-- Conditions ahead of what follows. -/
def allK : List Prop → Prop → Prop
  | [], K => K
  | p :: r, K => p ∧ allK r K
theorem allK_iff : ∀ {c : List Prop} {K : Prop}, allK c K ↔ (∀ p ∈ c, p) ∧ K
  | [], K => by simp [allK]
  | p :: r, K => by simp only [allK, allK_iff (c := r), List.mem_cons, forall_eq_or_imp, and_assoc]
/-- A slice of ours, seen as one that nobody writes: under which conditions. -/
def viewA (H : Nat → Option Blk) : AV → Option (List Prop × AV)
  | .sl sz b o n => match H b with
    | some (.arr z m f) => match Nat.beq z sz with
      | true => match Nat.beq o 0 with
        | true => some ([n ≤ m], .rs sz n none f)
        | false => some ([o + n ≤ m], .rs sz n none (fun i => f (o + i)))
      | false => none
    | some (.cells l) => match Nat.ble ((o + n) * sz) l.length, AV.unders 0 l with
      | true, true => some ([], .rs sz n none (fun i => (l.drop ((o + i) * sz)).take sz))
      | _, _ => none
    | none => none
  | a => match AV.under 0 a with
    | true => some ([], a)
    | false => none
mutual
/-- A value whose slices nobody writes any more. -/
def pubA (H : Nat → Option Blk) : AV → Option (List Prop × AV)
  | .agg l => match pubsA H l with
    | some (c, m) => some (c, .agg m)
    | none => none
  | .tup l => match pubsA H l with
    | some (c, m) => some (c, .tup m)
    | none => none
  | .fn f a b => match pubsA H a, pubsA H b with
    | some (c, x), some (d, y) => some (c ++ d, .fn f x y)
    | _, _ => none
  | .v x => some ([], .v x)
  | .rs sz n k f => some ([], .rs sz n k f)
  | .ep sz n f i j => some ([], .ep sz n f i j)
  | .sl sz b o n => viewA H (.sl sz b o n)
  | .ptr _ _ => none
  | .pe _ _ _ _ => none
  | .any => some ([], .any)
def pubsA (H : Nat → Option Blk) : List AV → Option (List Prop × List AV)
  | [] => some ([], [])
  | a :: r => match pubA H a, pubsA H r with
    | some (c, x), some (d, xs) => some (c ++ d, x :: xs)
    | _, _ => none
end
/-- The slice itself, if it is one of ours. -/
def slOf : AV → List Nat
  | .sl _ b _ _ => [b]
  | _ => []
mutual
/-- Which blocks of ours are slices in a value. -/
def slsA : AV → List Nat
  | .sl _ b _ _ => [b]
  | .agg l => slsOf l
  | .tup l => slsOf l
  | .fn _ a b => slsOf a ++ slsOf b
  | _ => []
def slsOf : List AV → List Nat
  | [] => []
  | a :: r => slsA a ++ slsOf r
end
def killA (l : List AV) : Heap := (slsOf l).map fun b => (b, none)
def pubPs (H : Nat → Option Blk) : List (Nat × AV) → Option (List Prop × List (Nat × AV))
  | [] => some ([], [])
  | (i, a) :: r => match pubA H a, pubPs H r with
    | some (c, x), some (d, xs) => some (c ++ d, (i, x) :: xs)
    | _, _ => none
def avsP : List (Nat × AV) → List AV
  | [] => []
  | (_, a) :: r => a :: avsP r

structure Cfg where
  /-- contracts of functions without memory -/
  spec : FuncId → Option (List AV → Option (Prop × AV))
  /-- functions that are entered -/
  inl : FuncId → Option Func
  /-- loops, by function and number of the first region in them -/
  loop : FuncId → Nat → Option (Nat → St → Option (Prop × Bool × (Exit × St) × (Exit × St)))
  /-- slice literals that are written later: function, temporary -/
  own : FuncId → Nat → Bool

/-- What an operation hands on: its value, what it lays into the heap (newest first), the next number. -/
abbrev OpK := AV → Heap → Nat → Prop

def loadA (t : TypeId) (p : AV) (H : Nat → Option Blk) : Option AV := match p with
  | .ptr b off => match H b with
    | some (.cells l) => partA P t l off
    | _ => none
  | .ep sz n f i j => partA P t (f i) j
  | _ => none

def appendA (sz : Nat) (s x : AV) (H : Nat → Option Blk) (next : Nat) (bytes : Nat) (K : OpK) : Prop :=
  match viewA H x with
  | some (c, .rs z m _ g) => match s with
    | .sl sz' b o n => match H b with
      | some (.arr z' n' f) => match Nat.beq z sz, Nat.beq sz' sz, Nat.beq z' sz, Nat.beq o 0 with
        | true, true, true, true => allK c (n = n' ∧ (n + m) * bytes ≤ 140737488355328 ∧ n + m ≤ maxLen ∧
            K (.sl sz next 0 (n + m)) [(next, some (.arr sz (n + m) (fun i => if i < n then f i else g (i - n)))), (b, none)] (next + 1))
        | _, _, _, _ => False
      | _ => False
    | .rs z' n (some k) f => match Nat.beq z sz, Nat.beq z' sz with
      | true, true => match Nat.beq k 0 with
        | true => allK c (n = k ∧ m * bytes ≤ 140737488355328 ∧ m ≤ maxLen ∧
            K (.sl sz next 0 m) [(next, some (.arr sz m g))] (next + 1))
        | false => allK c (n = k ∧ 0 < m ∧ (n + m) * bytes ≤ 140737488355328 ∧ n + m ≤ maxLen ∧
            K (.sl sz next 0 (n + m)) [(next, some (.arr sz (n + m) (fun i => if i < n then f i else g (i - n))))] (next + 1))
      | _, _ => False
    | .v (.slice none 0 0) => match Nat.beq z sz with
      | true => allK c (m * bytes ≤ 140737488355328 ∧ m ≤ maxLen ∧
            K (.sl sz next 0 m) [(next, some (.arr sz m g))] (next + 1))
      | _ => False
    | _ => False
  | _ => False

def sliceA (sz : Nat) (x : AV) (lo hi mx : Option AV) (K : AV → Prop) : Prop :=
  match x with
  | .rs z n k f => match Nat.beq z sz, lo, hi, mx with
    | true, none, none, none => K (.rs sz n k f)
    | true, some (.v (.int _ l)), none, none => 0 ≤ l ∧ l ≤ (n : Int) ∧ K (.rs sz (n - l.toNat) none (fun i => f (l.toNat + i)))
    | true, none, some (.v (.int _ h)), none => 0 ≤ h ∧ h ≤ (n : Int) ∧ K (.rs sz h.toNat none f)
    | true, some (.v (.int _ l)), some (.v (.int _ h)), none => 0 ≤ l ∧ l ≤ h ∧ h ≤ (n : Int) ∧ K (.rs sz (h.toNat - l.toNat) none (fun i => f (l.toNat + i)))
    | true, none, some (.v (.int _ h)), some (.v (.int _ m)) => 0 ≤ h ∧ h ≤ m ∧ m ≤ (n : Int) ∧ K (.rs sz h.toNat (some m.toNat) f)
    | _, _, _, _ => False
  | .sl z b o n => match Nat.beq z sz, lo, hi, mx with
    | true, none, none, none => K (.sl sz b o n)
    | true, none, some (.v (.int _ h)), none => 0 ≤ h ∧ h ≤ (n : Int) ∧ K (.sl sz b o h.toNat)
    | true, some (.v (.int _ l)), none, none => 0 ≤ l ∧ l ≤ (n : Int) ∧ K (.sl sz b (o + l.toNat) (n - l.toNat))
    | true, some (.v (.int _ l)), some (.v (.int _ h)), none => 0 ≤ l ∧ l ≤ h ∧ h ≤ (n : Int) ∧ K (.sl sz b (o + l.toNat) (h.toNat - l.toNat))
    | _, _, _, _ => False
  | _ => False

/-- One operation. -/
def opL (cfg : Cfg) (fid : FuncId) (env : Env) (H : Nat → Option Blk) (next : Nat) (o : Oper) (K : OpK) : Prop :=
  match o.op with
  | .move x => match opA env x with | some v => K v [] next | none => False
  | .assign x => match opA env x with | some v => K v [] next | none => False
  | .pick c a b => match opA env c with
    | some (.v (.bool t)) => match t with
      | true => match opA env a with | some v => K v [] next | none => False
      | false => match opA env b with | some v => K v [] next | none => False
    | _ => False
  | .alloc t => match zeroT P t with
    | some z => K (.ptr next 0) [(next, some (.cells z))] (next + 1)
    | none => False
  | .box t x => match opA env x with
    | some v => match aOnes v.cells with
      | true => K (.ptr next 0) [(next, some (.cells v.cells))] (next + 1)
      | false => False
    | none => False
  | .build t ps => match zeroT P t, partsA env ps.toList, placeA P t with
    | some z, some l, some pl => match fillA pl l z with
      | some cs => K (.agg cs) [] next
      | none => False
    | _, _, _ => False
  | .buildSlice t n ps => match P.underlying t, partsA env ps.toList with
    | some (.slice e), some l0 => match sizeT P e with
      | some sz => match pubPs H l0 with
        | some (c, l) => match elemsA sz 0 l with
          | some es => match Nat.beq es.length n, Nat.ble (n * sz) 10000, Nat.blt 0 sz, zeroT P e with
            | true, true, true, some _ => match (match o.dst with | some d => cfg.own fid d | none => false) with
              | true => allK c (K (.sl sz next 0 n) ((next, some (.arr sz n (fun i => es.getD i []))) :: killA (avsP l0)) (next + 1))
              | false => allK c (K (.rs sz n (some n) (fun i => es.getD i [])) (killA (avsP l0)) next)
            | _, _, _, _ => False
          | none => False
        | none => match elemsA sz 0 l0 with
          | some es => match Nat.beq es.length n, Nat.ble (n * sz) 10000, Nat.blt 0 sz, zeroT P e with
            | true, true, true, some _ => K (.sl sz next 0 n) [(next, some (.cells es.flatten))] (next + 1)
            | _, _, _, _ => False
          | none => False
      | none => False
    | _, _ => False
  | .load t a => match opA env a with
    | some (.pe sz b i j) => match H b with
      | some (.arr z n f) => match Nat.beq z sz, partA P t (f i) j with
        | true, some v => i < n ∧ K v [] next
        | _, _ => False
      | _ => False
    | some p => match loadA P t p H with
      | some v => K v [] next
      | none => False
    | none => False
  | .store t a x => match opA env a, opA env x, sizeT P t with
    | some (.ptr b off), some v, some n => match H b with
      | some (.cells l) => match Nat.beq v.cells.length n, Nat.ble (off + n) l.length, aOnes v.cells with
        | true, true, true => K (.v undef) [(b, some (.cells (setAt l off v.cells)))] next
        | _, _, _ => False
      | _ => False
    | some (.pe sz b i j), some v, some n => match H b with
      | some (.arr z m f) => match pubA H v with
        | some (c, v') => match Nat.beq z sz, Nat.beq v'.cells.length n, Nat.ble (j + n) sz, aOnes v'.cells, (slsA v).contains b with
          | true, true, true, true, false => allK c (i < m ∧ K (.v undef) ((b, some (.arr sz m (fun k => if k = i then setAt (f i) j v'.cells else f k))) :: killA [v]) next)
          | _, _, _, _, _ => False
        | none => False
      | _ => False
    | _, _, _ => False
  | .nilCheck x => match opA env x with
    | some (.ptr b off) => K (.ptr b off) [] next
    | some (.pe sz b i j) => K (.pe sz b i j) [] next
    | some (.ep sz n f i j) => K (.ep sz n f i j) [] next
    | some (.fn (.func f) a c) => K (.fn (.func f) a c) [] next
    | _ => False
  | .binOp op t x y yt => match opA env x, opA env y with
    | some a, some b => binA P op t a b fun v => K (.v v) [] next
    | _, _ => False
  | .unOp op t x => match opA env x with
    | some a => unA op a fun v => K (.v v) [] next
    | none => False
  | .convert s d x => match opA env x with
    | some a => convA P s d a fun v => K (.v v) [] next
    | none => False
  | .makeFunc f a c => match opAs env a.toList, opAs env c.toList with
    | some x, some y => K (.fn f x y) [] next
    | _, _ => False
  | .makeSlice t l c => match P.underlying t, opA env l, opA env c with
    | some (.slice e), some (.v (.int _ n)), some (.v (.int _ m)) => match P.info? e, zeroT P e with
      | some i, some z => match Nat.beq z.length i.size, Nat.blt 0 i.size with
        | true, true => 0 ≤ n ∧ n = m ∧ (i.bytes : Int) * n ≤ 140737488355328 ∧ n ≤ 140737488355328 ∧
            K (.sl i.size next 0 n.toNat) [(next, some (.arr i.size n.toNat (fun _ => z)))] (next + 1)
        | _, _ => False
      | _, _ => False
    | _, _, _ => False
  | .slice t x lo hi mx => match P.underlying t, opA env x with
    | some (.slice e), some a => match sizeT P e, opAs env (lo.toList ++ hi.toList ++ mx.toList) with
      | some sz, some _ => sliceA sz a (lo.bind (opA env)) (hi.bind (opA env)) (mx.bind (opA env)) fun v => K v [] next
      | _, _ => False
    | some (.array n e), some (.ptr b 0) => match sizeT P e, lo, hi, mx, H b with
      | some sz, none, none, none, some (.cells l) => match Nat.beq (n * sz) l.length, Nat.blt 0 sz, Nat.ble n 10000 with
        | true, true, true => K (.sl sz b 0 n) [] next
        | _, _, _ => False
      | _, _, _, _, _ => False
    | _, _ => False
  | .fieldAddr t x i => match P.underlying t with
    | some (.struct fs) => match fs[i]? with
      | some f => match sizeT P f.type with
        | some (n + 1) => match opA env x with
          | some (.ptr b off) => K (.ptr b (off + f.offset)) [] next
          | some (.pe sz b i j) => K (.pe sz b i (j + f.offset)) [] next
          | some (.ep sz n f' i j) => K (.ep sz n f' i (j + f.offset)) [] next
          | _ => False
        | _ => False
      | none => False
    | _ => False
  | .field t x i => match P.underlying t, opA env x with
    | some (.struct fs), some (.agg cs) => match fs[i]? with
      | some f => match partA P f.type cs f.offset with
        | some v => K v [] next
        | none => False
      | none => False
    | _, _ => False
  | .indexAddr t x i => match P.underlying t, opA env x, opA env i with
    | some (.array n e), some a, some (.v (.int _ k)) => match sizeT P e with
      | some sz => match a with
        | .ptr b off => 0 ≤ k ∧ k < (n : Int) ∧ K (.ptr b (off + k.toNat * sz)) [] next
        | .pe z b i j => 0 ≤ k ∧ k < (n : Int) ∧ K (.pe z b i (j + k.toNat * sz)) [] next
        | .ep z m f i j => 0 ≤ k ∧ k < (n : Int) ∧ K (.ep z m f i (j + k.toNat * sz)) [] next
        | _ => False
      | none => False
    | some (.slice e), some a, some (.v (.int _ k)) => match sizeT P e with
      | some sz => match a with
        | .rs z n c f => match Nat.beq z sz with
          | true => 0 ≤ k ∧ k < (n : Int) ∧ K (.ep sz n f k.toNat 0) [] next
          | false => False
        | .sl z b o n => match Nat.beq z sz with
          | true => match H b with
            | some (.arr _ _ _) => 0 ≤ k ∧ k < (n : Int) ∧ K (.pe sz b (o + k.toNat) 0) [] next
            | some (.cells _) => 0 ≤ k ∧ k < (n : Int) ∧ K (.ptr b ((o + k.toNat) * sz)) [] next
            | none => False
          | false => False
        | _ => False
      | none => False
    | _, _, _ => False
  | .index t x i => match P.underlying t, opA env x, opA env i with
    | some (.array n e), some (.agg cs), some (.v (.int _ k)) => match sizeT P e with
      | some sz => match partA P e cs (k.toNat * sz) with
        | some v => 0 ≤ k ∧ k < (n : Int) ∧ K v [] next
        | none => False
      | none => False
    | some .string, some (.v (.string s)), some (.v (.int _ k)) => 0 ≤ k ∧ k < (s.size : Int) ∧ K (.v (.int .u8 ((s.get! k.toNat).toNat : Int))) [] next
    | _, _, _ => False
  | .extract t i => match opA env t with
    | some (.tup l) => match l[i]? with
      | some v => K v [] next
      | none => False
    | _ => False
  | .call c => match c.callee, opAs env c.args.toList with
    | .builtin .len, some [a] => match c.argTypes.toList with
      | [t] => match P.underlying t, a with
        | some (.slice _), .rs _ n _ _ => K (.v (.int .i64 (n : Int))) [] next
        | some (.slice _), .sl _ _ _ n => K (.v (.int .i64 (n : Int))) [] next
        | some (.slice _), .v (.slice none 0 0) => K (.v (.int .i64 0)) [] next
        | some .string, .v (.string s) => K (.v (.int .i64 (s.size : Int))) [] next
        | _, _ => False
      | _ => False
    | .builtin .max, some l => match maxA l with
      | some (k, n) => K (.v (.int k n)) [] next
      | none => False
    | .builtin .min, some l => match minA l with
      | some (k, n) => K (.v (.int k n)) [] next
      | none => False
    | .builtin .append, some [s, x] => match c.argTypes.toList with
      | [t, t'] => match Nat.beq t t', P.underlying t with
        | true, some (.slice e) => match P.info? e with
          | some i => match Nat.blt 0 i.size, zeroT P e with
            | true, some z => match Nat.beq z.length i.size with
              | true => match x with
                | .v (.slice none 0 0) => match s with
                  | .rs sz n k f => K (.rs sz n k f) [] next
                  | .sl sz b of n => K (.sl sz b of n) [] next
                  | .v (.slice none 0 0) => K (.v (.slice none 0 0)) [] next
                  | _ => False
                | _ => appendA i.size s x H next i.bytes K
              | false => False
            | _, _ => False
          | none => False
        | _, _ => False
      | _ => False
    | .value g, some args => match opA env g with
      | some (.fn (.func f) first caps) => match cfg.spec f with
        | some h => match pubsA H (first ++ args ++ caps) with
          | some (c, as) => match h as with
            | some (p, v) => match AV.flat v with
              | true => allK c (p ∧ K v [] next)
              | false => allK c (p ∧ K v (killA (first ++ args ++ caps)) next)
            | none => False
          | none => False
        | none => False
      | _ => False
    | _, _ => False
  | _ => False

/-- Entering a function: its number, its arguments, the heap, the next number; what is done with its result. -/
abbrev CallE := FuncId → List AV → Heap → Nat → OpK → Prop

def inlOf (cfg : Cfg) (env : Env) (o : Oper) : Option (FuncId × List AV) := match o.op with
  | .call { callee := .value g, args := as, .. } => match opA env g, opAs env as.toList with
    | some (.fn (.func f) first caps), some l => match cfg.spec f with
      | some _ => none
      | none => match cfg.inl f with
        | some _ => some (f, first ++ l ++ caps)
        | none => none
    | _, _ => none
  | _ => none

def opE (callE : CallE) (cfg : Cfg) (fid : FuncId) (o : Oper) (s : St) (K : St → Prop) : Prop :=
  match inlOf cfg s.env o with
  | some (f, args) => callE f args s.heap s.next fun v h n => K (St.set { s with heap := h, next := n } o.dst v)
  | none => opL P cfg fid s.env s.heap.live s.next o fun v u n => K (St.set { s with heap := u ++ s.heap, next := n } o.dst v)

def regE (callE : CallE) (cfg : Cfg) (fid : FuncId) (ops : Array Oper) : List Oper → St → (St → Prop) → Prop
  | [], s, Q => Q s
  | o :: rest, s, Q => match o.guard with
    | none => opE P callE cfg fid o s fun s' => regE callE cfg fid ops rest s' Q
    | some (j, want) => match (ops[j]?).bind (·.dst) with
      | some t => match look s.env t with
        | some (.v (.bool c)) => match c, want with
          | true, true => opE P callE cfg fid o { s with env := (t, .v (.bool true)) :: s.env } fun s' => regE callE cfg fid ops rest s' Q
          | true, false => regE callE cfg fid ops rest (St.set { s with env := (t, .v (.bool true)) :: s.env } o.dst (.v undef)) Q
          | false, false => opE P callE cfg fid o { s with env := (t, .v (.bool false)) :: s.env } fun s' => regE callE cfg fid ops rest s' Q
          | false, true => regE callE cfg fid ops rest (St.set { s with env := (t, .v (.bool false)) :: s.env } o.dst (.v undef)) Q
        | some (.v (.tuple _)) => regE callE cfg fid ops rest (St.set s o.dst (.v undef)) Q
        | _ => False
      | none => False

def firstReg : Code → Nat
  | .region id _ _ => id
  | .seq a _ => firstReg a
  | .cond _ a _ => firstReg a
  | .block _ b => firstReg b
  | .loop b => firstReg b
  | _ => 0

def noCall : CallE := fun _ _ _ _ _ => False

/-! Drawn regions: the operations may come in any order that the edges leave. -/
/-- What must have come before, as bits. -/
def maskE (acc : List Nat) : List Edge → Nat
  | [] => 0
  | e :: r => match Region.binds .any e with
    | true => Nat.lor (Nat.lor (2 ^ e.on) (acc.getD e.on 0)) (maskE acc r)
    | false => maskE acc r
def befGo : List Nat → List Oper → List Nat
  | acc, [] => acc
  | acc, o :: r => befGo (acc ++ [maskE acc o.after.toList]) r
def befs (ops : List Oper) : List Nat := befGo [] ops
def tmpsOf : List Operand → List Nat
  | [] => []
  | .tmp t :: r => t :: tmpsOf r
  | _ :: r => tmpsOf r
def looksOf (ops : Array Oper) (o : Oper) : List Nat := tmpsOf o.op.operands.toList ++ (match o.guard with
  | some (g, _) => match (ops[g]?).bind (·.dst) with
    | some t => [t]
    | none => []
  | none => [])
/-- Each temporary t that is looked at and that operation j writes: one of the two must wait for the other one. -/
def seenOk (bs : List Nat) (i : Nat) (ts : List Nat) : Nat → List Oper → Bool
  | _, [] => true
  | j, o :: r => (match o.dst with
    | some d => match ts.contains d with
      | true => (Nat.testBit (bs.getD i 0) j && Nat.blt j i) || (Nat.testBit (bs.getD j 0) i && Nat.blt i j)
      | false => true
    | none => true) && seenOk bs i ts (j + 1) r
def dstOk : List Nat → List Oper → Bool
  | _, [] => true
  | l, o :: r => match o.dst with
    | some d => match l.contains d with
      | true => false
      | false => dstOk (d :: l) r
    | none => dstOk l r
def guardOk (ops : Array Oper) (mask : Nat) (o : Oper) : Bool := match o.guard with
  | some (g, _) => match (ops[g]?).bind (·.dst) with
    | some _ => Nat.testBit mask g
    | none => false
  | none => true
def afterOk (i : Nat) : List Edge → Bool
  | [] => true
  | e :: r => (match Region.binds .any e with
    | true => Nat.blt e.on i
    | false => true) && afterOk i r
def eachOk (ops : Array Oper) (bs : List Nat) : Nat → List Oper → Bool
  | _, [] => true
  | i, o :: r => seenOk bs i (looksOf ops o) 0 ops.toList && guardOk ops (bs.getD i 0) o && afterOk i o.after.toList && (match o.op with | .select _ _ => false | _ => true) && eachOk ops bs (i + 1) r
def drawOk (ops : Array Oper) : Bool := dstOk [] ops.toList && eachOk ops (befs ops.toList) 0 ops.toList

def apartL : List Nat → List Nat → Bool
  | [], _ => true
  | a :: r, l => !(l.contains a) && apartL r l
/-- Operation i touches nothing that an operation which need not come before it touches, unless both read. -/
def fpOk (mask : Nat) (R W : List Nat) : List (Nat × List Nat × List Nat) → Bool
  | [] => true
  | (j, R', W') :: r => (Nat.testBit mask j || (apartL W (R' ++ W') && apartL R W')) && fpOk mask R W r
def refsA : Option AV → List Nat
  | some (.ptr b _) => [b]
  | some (.sl _ b _ _) => [b]
  | some (.pe _ b _ _) => [b]
  | _ => []
/-- What an operation reads, and what it writes, of our blocks. -/
def fpL (env : Env) (o : Oper) : List Nat × List Nat := match o.op with
  | .load _ a => (refsA (opA env a), [])
  | .store _ a x => ([], refsA (opA env a) ++ (match opA env a, opA env x with
    | some (.pe _ _ _ _), some v => slsOf [v]
    | _, _ => []))
  | .buildSlice _ _ ps => ([], match partsA env ps.toList with
    | some l => slsOf (avsP l)
    | none => [])
  | .slice _ x _ _ _ => (refsA (opA env x), [])
  | .indexAddr _ x _ => (refsA (opA env x), [])
  | .call c => match c.callee with
    | .builtin .append => match opAs env c.args.toList with
      | some [s, x] => (refsA (some x), refsA (some s))
      | _ => ([], [])
    | .value g => match opA env g, opAs env c.args.toList with
      | some (.fn _ first caps), some l => ([], slsOf (first ++ l ++ caps))
      | _, _ => ([], [])
    | _ => ([], [])
  | _ => ([], [])

/-- An operation in a drawn region: a function that is entered sees copies. -/
def opD (callE : CallE) (cfg : Cfg) (fid : FuncId) (env : Env) (H : Nat → Option Blk) (next : Nat) (o : Oper) (K : OpK) : Prop :=
  match inlOf cfg env o with
  | some (f, args) => match pubsA H args with
    | some (c, as) => allK c (callE f as [] 0 fun v h _ => match pubA (Heap.live h) v with
      | some (d, v') => match AV.flat v' with
        | true => allK d (K v' [] next)
        | false => allK d (K v' (killA args) next)
      | none => False)
    | none => False
  | none => opL P cfg fid env H next o K

abbrev Fps := List (Nat × List Nat × List Nat)
def stepD (callE : CallE) (cfg : Cfg) (fid : FuncId) (bs : List Nat) (o : Oper) (i : Nat) (done : Fps) (s : St) (K : Fps → St → Prop) : Prop :=
  opD P callE cfg fid s.env s.heap.live s.next o fun v u n =>
    match fpOk (bs.getD i 0) (fpL s.env o).1 ((fpL s.env o).2 ++ (if Nat.beq n s.next then [] else [s.next])) done with
    | true => K ((i, (fpL s.env o).1, (fpL s.env o).2 ++ (if Nat.beq n s.next then [] else [s.next])) :: done) (St.set { s with heap := u ++ s.heap, next := n } o.dst v)
    | false => False

def regD (callE : CallE) (cfg : Cfg) (fid : FuncId) (ops : Array Oper) (bs : List Nat) : List Oper → Nat → Fps → St → (St → Prop) → Prop
  | [], _, _, s, Q => Q s
  | o :: rest, i, done, s, Q => match o.guard with
    | none => stepD P callE cfg fid bs o i done s fun d s' => regD callE cfg fid ops bs rest (i + 1) d s' Q
    | some (j, want) => match (ops[j]?).bind (·.dst) with
      | some t => match look s.env t with
        | some (.v (.bool c)) => match c, want with
          | true, true => stepD P callE cfg fid bs o i done { s with env := (t, .v (.bool true)) :: s.env } fun d s' => regD callE cfg fid ops bs rest (i + 1) d s' Q
          | true, false => regD callE cfg fid ops bs rest (i + 1) done (St.set { s with env := (t, .v (.bool true)) :: s.env } o.dst (.v undef)) Q
          | false, false => stepD P callE cfg fid bs o i done { s with env := (t, .v (.bool false)) :: s.env } fun d s' => regD callE cfg fid ops bs rest (i + 1) d s' Q
          | false, true => regD callE cfg fid ops bs rest (i + 1) done (St.set { s with env := (t, .v (.bool false)) :: s.env } o.dst (.v undef)) Q
        | some (.v (.tuple _)) => regD callE cfg fid ops bs rest (i + 1) done (St.set s o.dst (.v undef)) Q
        | _ => False
      | none => False

/-- All temporaries that are written lie below n. -/
def dstUnder (n : Nat) : List Oper → Bool
  | [] => true
  | o :: r => (match o.dst with
    | some d => Nat.blt d n
    | none => true) && dstUnder n r
def codeUnder (n : Nat) : Code → Bool
  | .region _ ops _ => dstUnder n ops.toList
  | .seq a b => codeUnder n a && codeUnder n b
  | .cond _ a b => codeUnder n a && codeUnder n b
  | .block _ b => codeUnder n b
  | .loop b => codeUnder n b
  | _ => true

/-- A loop, unrolled. -/
def loopU (f : St → (Exit → St → Prop) → Prop) : Nat → St → (Exit → St → Prop) → Prop
  | 0, _, _ => False
  | k + 1, s, Q => f s fun e s' => match e with
    | .normal => loopU f k s' Q
    | e => Q e s'

def codeE (callE : CallE) (cfg : Cfg) (fid : FuncId) (fuel m : Nat) : Code → St → (Exit → St → Prop) → Prop
  | .skip, s, Q => Q .normal s
  | .label _, s, Q => Q .normal s
  | .exit id, s, Q => Q (.exit id) s
  | .ret, s, Q => Q .ret s
  | .region _ ops draw, s, Q => match draw with
    | false => regE P callE cfg fid ops ops.toList s (Q .normal)
    | true => match drawOk ops with
      | true => regD P callE cfg fid ops (befs ops.toList) ops.toList 0 [] s (Q .normal)
      | false => False
  | .seq a b, s, Q => codeE callE cfg fid fuel m a s fun e s' => match e with
    | .normal => codeE callE cfg fid fuel m b s' Q
    | e => Q e s'
  | .cond c a b, s, Q => match opA s.env c with
    | some (.v (.bool t)) => match t with
      | true => codeE callE cfg fid fuel m a s Q
      | false => codeE callE cfg fid fuel m b s Q
    | _ => False
  | .block id b, s, Q => codeE callE cfg fid fuel m b s fun e s' => match e with
    | .exit j => match Nat.beq j id with
      | true => Q .normal s'
      | false => Q (.exit j) s'
    | e => Q e s'
  | .loop b, s, Q => match cfg.loop fid (firstReg b) with
    | some g => match g m s with
      | some (c, t, (e1, s1), (e2, s2)) => c ∧ (match t with
        | true => Q e1 s1
        | false => Q e2 s2)
      | none => False
    | none => loopU (fun s Q => codeE callE cfg fid fuel m b s Q) fuel s Q
  | _, _, _ => False

def resV (s : St) : ResultVar → Option AV
  | .tmp t => look s.env t
  | .cell a t => match look s.env a with
    | some p => loadA P t p s.heap.live
    | none => none
def resVs (s : St) : List ResultVar → Option (List AV)
  | [] => some []
  | r :: rs => match resV P s r, resVs s rs with
    | some v, some vs => some (v :: vs)
    | _, _ => none
def resE (s : St) (l : List ResultVar) : Option AV := match resVs P s l with
  | some [v] => some v
  | some vs => some (.tup vs)
  | none => none
def argEnv : Nat → List AV → Env
  | _, [] => []
  | k, a :: r => (k, a) :: argEnv (k + 1) r

def bodyE (callE : CallE) (cfg : Cfg) (fuel : Nat) (fid : FuncId) (fn : Func) (args : List AV) (h : Heap) (n : Nat) (K : OpK) : Prop :=
  match fn.body with
  | some c => match codeUnder fn.ntmps c, fn.name == "runtime.NumGoroutine" with
   | true, false => codeE P callE cfg fid fuel n c { env := argEnv 0 args, heap := h, next := n } fun e s => match e with
    | .normal => match resE P s fn.results.toList with
      | some v => K v s.heap s.next
      | none => False
    | .ret => match resE P s fn.results.toList with
      | some v => K v s.heap s.next
      | none => False
    | _ => False
   | _, _ => False
  | none => False
def callN (cfg : Cfg) (fuel : Nat) : Nat → CallE
  | 0 => noCall
  | d + 1 => fun f args h n K => match cfg.inl f with
    | some fn => bodyE P (callN cfg fuel d) cfg fuel f fn args h n K
    | none => False
end
end Go.Ev
