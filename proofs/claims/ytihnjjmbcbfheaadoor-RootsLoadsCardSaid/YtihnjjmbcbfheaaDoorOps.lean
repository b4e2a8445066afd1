/-
  The operations that leave the world alone: what each comes to, on values.
-/
import Derived.Test.YtihnjjmbcbfheaaDoorBase
namespace Go.Proofs.YtihnjjmbcbfheaaDoor.V
open Go Go.RowKit
set_option linter.unusedVariables false
set_option linter.unusedSimpArgs false

/-- bit operations, under one name -/
def bitV (op : BinOp) (k : IntKind) (x y : Int) : Int :=
  let a := BitVec.ofInt k.bits x
  let b := BitVec.ofInt k.bits y
  k.wrap (match op with
    | .and => (a &&& b).toNat
    | .or => (a ||| b).toNat
    | .xor => (a ^^^ b).toNat
    | _ => (a &&& ~~~b).toNat : Nat)
def shlV (k : IntKind) (x y : Int) : Int := k.wrap (x * 2 ^ (min y.toNat k.bits))
def shrV (k : IntKind) (x y : Int) : Int := x.fdiv (2 ^ (min y.toNat k.bits))

def intD (op : BinOp) (k k' : IntKind) (x y : Int) (K : Value → Prop) : Prop :=
  match op with
  | .shl => 0 ≤ y ∧ K (.int k (shlV k x y))
  | .shr => 0 ≤ y ∧ K (.int k (shrV k x y))
  | .add => k = k' ∧ K (.int k (k.wrap (x + y)))
  | .sub => k = k' ∧ K (.int k (k.wrap (x - y)))
  | .mul => k = k' ∧ K (.int k (k.wrap (x * y)))
  | .quo => k = k' ∧ y ≠ 0 ∧ K (.int k (k.wrap (x.tdiv y)))
  | .rem => k = k' ∧ y ≠ 0 ∧ K (.int k (x.tmod y))
  | .and => k = k' ∧ K (.int k (bitV .and k x y))
  | .or => k = k' ∧ K (.int k (bitV .or k x y))
  | .xor => k = k' ∧ K (.int k (bitV .xor k x y))
  | .andNot => k = k' ∧ K (.int k (bitV .andNot k x y))
  | .eql => k = k' ∧ K (.bool (x == y))
  | .neq => k = k' ∧ K (.bool (x != y))
  | .lss => k = k' ∧ K (.bool (decide (x < y)))
  | .leq => k = k' ∧ K (.bool (decide (x ≤ y)))
  | .gtr => k = k' ∧ K (.bool (decide (y < x)))
  | .geq => k = k' ∧ K (.bool (decide (y ≤ x)))
def strD (op : BinOp) (x y : ByteArray) (K : Value → Prop) : Prop :=
  match op with
  | .eql => K (.bool (x.toList == y.toList))
  | .neq => K (.bool (!(x.toList == y.toList)))
  | .add => (x.size + y.size : Nat) ≤ 9223372036854775807 ∧ K (.string (x ++ y))
  | _ => False
def nilEq (a b : Option Addr) (K : Bool → Prop) : Prop :=
  match b with
  | none => K a.isNone
  | some _ =>
    match a with
    | none => K false
    | some _ => False
def eqD (d : Option TD) (x y : Value) (K : Bool → Prop) : Prop :=
  match d, x, y with
  | some .bool, .bool a, .bool b => K (a == b)
  | some (.pointer _), .pointer a, .pointer b => nilEq a b K
  | some (.slice _), .slice a _ _, .slice b _ _ => nilEq a b K
  | some .func, .nilFunc, .nilFunc => K true
  | some .func, .func _ _ _, .nilFunc => K false
  | some .func, .nilFunc, .func _ _ _ => K false
  | _, _, _ => False
def nth (l : List Value) (i : Nat) (K : Value → Prop) : Prop :=
  match l, i with
  | [], _ => False
  | v :: _, 0 => K v
  | _ :: l, n + 1 => nth l n K
theorem nth_spec : ∀ (l : List Value) (i : Nat) (K : Value → Prop), nth l i K → ∃ v, l[i]? = some v ∧ K v
  | [], _, _, h => h.elim
  | v :: _, 0, _, h => ⟨v, rfl, h⟩
  | _ :: l, n + 1, K, h => by simpa using nth_spec l n K h
/-- the fields of two structs, one by one -/
def eqFs (τ : Tab) : List (Nat × Nat) → List Value → List Value → Bool → (Bool → Prop) → Prop
  | [], _, _, acc, K => K acc
  | (off, ft) :: r, xs, ys, acc, K => nth xs off fun a => nth ys off fun b =>
    match lk τ.und ft, a, b with
    | some (.int _), .int k x, .int k' y => k = k' ∧ eqFs τ r xs ys (acc && (x == y)) K
    | some .bool, .bool x, .bool y => eqFs τ r xs ys (acc && (x == y)) K
    | some .string, .string x, .string y => eqFs τ r xs ys (acc && (x.toList == y.toList)) K
    | _, _, _ => False
def eqA (τ : Tab) (t : Nat) (xs ys : Array Value) (K : Bool → Prop) : Prop :=
  match isIn τ.eqs t, lk τ.und t with
  | true, some (.struct fs) => eqFs τ fs xs.toList ys.toList true K
  | _, _ => False
def eqX (τ : Tab) (t : Nat) (x y : Value) (K : Bool → Prop) : Prop :=
  match x, y with
  | .agg xs, .agg ys => eqA τ t xs ys K
  | x, y => eqD (lk τ.und t) x y K
def binD (τ : Tab) (op : BinOp) (t : Nat) (x y : Value) (K : Value → Prop) : Prop :=
  match x, y with
  | .int k a, .int k' b => intD op k k' a b K
  | .string a, .string b => strD op a b K
  | x, y =>
    match op with
    | .eql => eqX τ t x y (fun b => K (.bool b))
    | .neq => eqX τ t x y (fun b => K (.bool (!b)))
    | _ => False
def isNilI (v : Value) : Bool :=
  match v with
  | .nilIface => true
  | _ => false
/-- an interface's value, held against nil -/
structure OkI (v : Value) : Prop where
  h : v = .nilIface ∨ ∃ t u, v = .iface t u
def ifD (op : BinOp) (x : Value) (K : Value → Prop) : Prop :=
  match op with
  | .eql => OkI x ∧ K (.bool (isNilI x))
  | .neq => OkI x ∧ K (.bool (!(isNilI x)))
  | _ => False
def isI (d : Option TD) (Y : Operand) : Bool :=
  match d with
  | some .iface => match Y with
    | .const .nilIface => true
    | _ => false
  | _ => false
def binX (τ : Tab) (op : BinOp) (t : Nat) (Y : Operand) (x y : Value) (K : Value → Prop) : Prop :=
  match isI (lk τ.und t) Y with
  | true => ifD op x K
  | false => binD τ op t x y K
/-- a test -/
def gd (b want : Bool) (A B : Prop) : Prop :=
  match b, want with
  | true, true => A
  | false, false => A
  | true, false => B
  | false, true => B
theorem gd_spec {b want : Bool} {A B : Prop} (h : gd b want A B) : (b = want → A) ∧ (b = (!want) → B) := by
  cases b <;> cases want <;> simp_all [gd]
theorem gd_st (b : Bool) (A B : Prop) : gd b true A B = ((b = true → A) ∧ (b = false → B)) := by cases b <;> simp [gd]
theorem gd_sf (b : Bool) (A B : Prop) : gd b false A B = ((b = false → A) ∧ (b = true → B)) := by cases b <;> simp [gd]
def pickD (c : Bool) (x y : Value) (K : Value → Prop) : Prop :=
  match x, y with
  | .bool a, .bool b => K (.bool (bif c then a else b))
  | x, y => gd c true (K x) (K y)
def unD (op : UnOp) (x : Value) (K : Value → Prop) : Prop :=
  match op, x with
  | .not, .bool b => K (.bool (!b))
  | .neg, .int k n => K (.int k (k.wrap (0 - n)))
  | .xor, .int k n => K (.int k (bitV .xor k (if k.signed then -1 else k.max) n))
  | _, _ => False
def convD (τ : Tab) (s d : Nat) (x : Value) (K : Value → Prop) : Prop :=
  match (lk τ.und s).isSome, lk τ.und d, x with
  | true, some (.int k), .int _ n => K (.int k (k.wrap n))
  | true, some .string, .string s => K (.string s)
  | _, _, _ => False
def lenD (τ : Tab) (t : Nat) (x : Value) (K : Value → Prop) : Prop :=
  match lk τ.und t, x with
  | some .string, .string s => K (.int .i64 s.size)
  | some (.slice _), .slice _ n _ => K (.int .i64 n)
  | _, _ => False
def capD (τ : Tab) (t : Nat) (x : Value) (K : Value → Prop) : Prop :=
  match lk τ.und t, x with
  | some (.slice _), .slice _ _ c => K (.int .i64 c)
  | _, _ => False
def extractD (x : Value) (i : Nat) (K : Value → Prop) : Prop :=
  match x with
  | .tuple vs => nth vs.toList i K
  | _ => False
def nthP : List (Nat × Nat) → Nat → Option (Nat × Nat)
  | [], _ => none
  | p :: _, 0 => some p
  | _ :: l, n + 1 => nthP l n
def aggB (d : Option TD) : Option Bool :=
  match d with
  | some (.struct _) => some true
  | some (.array _ _) => some true
  | some _ => some false
  | none => none
def fieldD (τ : Tab) (t : Nat) (x : Value) (i : Nat) (K : Value → Prop) : Prop :=
  match lk τ.und t, x with
  | some (.struct fs), .agg cs =>
    match nthP fs i with
    | some (off, ft) =>
      match aggB (lk τ.und ft), lk τ.siz ft with
      | some false, _ => nth cs.toList off K
      | some true, some (n, _, _) => K (.agg ((cs.toList.drop off).take n).toArray)
      | _, _ => False
    | none => False
  | _, _ => False
def fieldAddrD (τ : Tab) (t : Nat) (x : Value) (i : Nat) (K : Value → Prop) : Prop :=
  match lk τ.und t, x with
  | some (.struct fs), .pointer a =>
    match nthP fs i with
    | some (off, ft) =>
      match lk τ.siz ft with
      | some (n, _, _) => n ≠ 0 ∧ ∃ p, a = some p ∧ K (.pointer (some (p.add off)))
      | _ => False
    | none => False
  | _, _ => False
def indexAddrD (τ : Tab) (t : Nat) (x i : Value) (K : Value → Prop) : Prop :=
  match lk τ.und t, x, i with
  | some (.slice el), .slice a n _, .int _ i =>
    match lk τ.siz el with
    | some (sz, _, _) => 0 ≤ i ∧ i < n ∧ ∃ p, a = some p ∧ K (.pointer (some (p.add (i.toNat * sz))))
    | none => False
  | _, _, _ => False
def indexD (τ : Tab) (t : Nat) (x i : Value) (K : Value → Prop) : Prop :=
  match lk τ.und t, x, i with
  | some .string, .string s, .int _ i => 0 ≤ i ∧ ∃ b, s[i.toNat]? = some b ∧ K (.int .u8 b.toNat)
  | _, _, _ => False
def sliceD (τ : Tab) (t : Nat) (x : Value) (lo hi mx : Option Value) (K : Value → Prop) : Prop :=
  match lk τ.und t, x with
  | some (.slice el), .slice a n c =>
    match lk τ.siz el with
    | some (sz, _, _) =>
      match lo, hi, mx with
      | none, none, none => K (.slice a n c)
      | some (.int _ l), none, none => 0 ≤ l ∧ l ≤ n ∧ K (.slice (if c = l.toNat then a else a.map (·.add (l.toNat * sz))) (n - l.toNat) (c - l.toNat))
      | none, some (.int _ h), none => 0 ≤ h ∧ h ≤ c ∧ K (.slice (if c = 0 then a else a.map (·.add (0 * sz))) h.toNat c)
      | some (.int _ l), some (.int _ h), none => 0 ≤ l ∧ l ≤ h ∧ h ≤ c ∧ K (.slice (if c = l.toNat then a else a.map (·.add (l.toNat * sz))) (h.toNat - l.toNat) (c - l.toNat))
      | _, _, _ => False
    | none => False
  | some .string, .string s =>
    match lo, hi, mx with
    | some (.int _ l), none, none => 0 ≤ l ∧ l ≤ s.size ∧ K (.string (s.extract l.toNat s.size))
    | none, some (.int _ h), none => 0 ≤ h ∧ h ≤ s.size ∧ K (.string (s.extract 0 h.toNat))
    | some (.int _ l), some (.int _ h), none => 0 ≤ l ∧ l ≤ h ∧ h ≤ s.size ∧ K (.string (s.extract l.toNat h.toNat))
    | _, _, _ => False
  | _, _ => False
def nilCheckD (x : Value) (K : Value → Prop) : Prop :=
  match x with
  | .pointer a => ∃ p, a = some p ∧ K (.pointer (some p))
  | .func (.func f) fi ca => K (.func (.func f) fi ca)
  | _ => False
def minD (x y : Value) (K : Value → Prop) : Prop :=
  match x, y with
  | .int k a, .int _ b => K (.int k (if b < a then b else a))
  | _, _ => False
def maxD (x y : Value) (K : Value → Prop) : Prop :=
  match x, y with
  | .int k a, .int _ b => K (.int k (if a < b then b else a))
  | _, _ => False
def sizesOf (τ : Tab) : List (Nat × Nat) → Option (List (Nat × Nat))
  | [] => some []
  | f :: r =>
    match lk τ.siz f.2, sizesOf τ r with
    | some (n, _, _), some l => some ((f.1, n) :: l)
    | _, _ => none
def splice : List Value → Nat → List Value → List Value
  | cells, _, [] => cells
  | cells, off, c :: cs => splice (wr cells off c) (off + 1) cs
def len' : List Value → Nat
  | [] => 0
  | _ :: l => len' l + 1
def fillD (pl : List (Nat × Nat)) : List Value → List (Nat × Value) → (List Value → Prop) → Prop
  | cells, [], K => K cells
  | cells, (i, v) :: r, K =>
    match nthP pl i with
    | some (off, size) =>
      match v with
      | .agg cs => (len' cs.toList = size ∧ off + size ≤ len' cells) ∧ fillD pl (splice cells off cs.toList) r K
      | v => (size = 1 ∧ off + 1 ≤ len' cells) ∧ fillD pl (wr cells off v) r K
    | none => False
def buildD (τ : Tab) (t : Nat) (parts : List (Nat × Value)) (K : Value → Prop) : Prop :=
  match lk τ.und t, lk τ.siz t with
  | some (.struct fs), some (_, _, z) =>
    match sizesOf τ fs with
    | some l => fillD l z parts fun cells => K (.agg cells.toArray)
    | none => False
  | _, _ => False

def mkIfD (τ : Tab) (t : Nat) (x : Value) (K : Value → Prop) : Prop :=
  match lk τ.und t with
  | some (.pointer _) => K (.iface t x)
  | some (.int _) => K (.iface t x)
  | _ => False
def pureD (τ : Tab) (o : Op) (e : Env) (K : Value → Prop) : Prop :=
  match o with
  | .move x => K (ev e x)
  | .assign x => K (ev e x)
  | .pick c a b =>
    match ev e c with
    | .bool c => pickD c (ev e a) (ev e b) K
    | _ => False
  | .binOp op t x y _ => binX τ op t y (ev e x) (ev e y) K
  | .unOp op _ x => unD op (ev e x) K
  | .convert s d x => convD τ s d (ev e x) K
  | .extract x i => extractD (ev e x) i K
  | .field t x i => fieldD τ t (ev e x) i K
  | .fieldAddr t x i => fieldAddrD τ t (ev e x) i K
  | .indexAddr t x i => indexAddrD τ t (ev e x) (ev e i) K
  | .index t x i => indexD τ t (ev e x) (ev e i) K
  | .slice t x lo hi mx => sliceD τ t (ev e x) (lo.map (ev e)) (hi.map (ev e)) (mx.map (ev e)) K
  | .nilCheck x => nilCheckD (ev e x) K
  | .build t parts => buildD τ t (parts.toList.map fun p => (p.1, ev e p.2)) K
  | .makeFunc fn first cap => K (.func fn (first.map (ev e)) (cap.map (ev e)))
  | .makeInterface t x => mkIfD τ t (ev e x) K
  | .call c =>
    match c.callee, c.args.toList, c.argTypes.toList with
    | .builtin .len, [x], [t] => lenD τ t (ev e x) K
    | .builtin .cap, [x], [t] => capD τ t (ev e x) K
    | .builtin .min, [x, y], _ => minD (ev e x) (ev e y) K
    | .builtin .max, [x, y], _ => maxD (ev e x) (ev e y) K
    | _, _, _ => False
  | _ => False
end Go.Proofs.YtihnjjmbcbfheaaDoor.V
