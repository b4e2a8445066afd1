/-
  What has to be shown of a piece of code, in plain words on values ('den').
-/
import Derived.Test.YtihnjjmbcbfheaaDoorSound2
namespace Go.Proofs.YtihnjjmbcbfheaaDoor.V
open Go Go.RowKit
set_option linter.unusedVariables false
set_option linter.unusedSimpArgs false

/-! ### worlds behind an effect, under names -/
def NewW (w : World) (o : Obj) (w1 : World) : Prop := w1 = w.alloc o
def setL (w : World) (p : Addr) : Nat → List Value → World
  | _, [] => w
  | i, v :: r => setL (w.setCell (p.add i) v) p (i + 1) r
def SetW (w : World) (p : Addr) (vs : List Value) (w1 : World) : Prop := w1 = setL w p 0 vs
def CanSet (w : World) (p : Addr) : Nat → Prop
  | 0 => True
  | n + 1 => (∃ v, w.cell? (p.add n) = some v) ∧ w.frozen? (p.add n) = false ∧ CanSet w p n
/-- the world after some draws -/
def Qt (w w' : World) : Prop := ∃ n, w' = w.drewN n
def Runs (P : Program) (m : Sem Value) (w : World) (v : Value) (w' : World) : Prop := m.run P w = .ok v w'
def RunsU (P : Program) (m : Sem Unit) (w : World) (w' : World) : Prop := m.run P w = .ok () w'
def cellsAt (w : World) (p : Addr) : Nat → List Value → Prop
  | _, [] => True
  | i, v :: r => w.cell? (p.add i) = some v ∧ cellsAt w p (i + 1) r
def zrow (z : List Value) (n : Nat) : Array Value := (Array.range (n * z.length)).map (z.toArray[· % z.toArray.size]!)
def rep (z : List Value) : Nat → List Value
  | 0 => []
  | n + 1 => z ++ rep z n
def rowPl (size : Nat) : Nat → Nat → List (Nat × Nat)
  | _, 0 => []
  | off, n + 1 => (off, size) :: rowPl size (off + size) n
def one (v : Value) : Prop :=
  match v with
  | .agg _ => False
  | .tuple _ => False
  | _ => True
def ones : List Value → Prop
  | [] => True
  | v :: l => one v ∧ ones l

abbrev KW := Value → World → Prop

def loadD (τ : Tab) (t : Nat) (x : Value) (w : World) (K : Value → Prop) : Prop :=
  match x with
  | .pointer a =>
    ∃ p, a = some p ∧
      match aggB (lk τ.und t), lk τ.siz t, lk τ.sh t with
      | some false, _, some s => s.ex fun v => w.cell? p = some v ∧ K v
      | some true, some (n, _, _), some (.agg l) => Sh.exL l fun vs => len' vs = n ∧ cellsAt w p 0 vs ∧ K (.agg vs.toArray)
      | _, _, _ => False
  | _ => False
def storeD (τ : Tab) (t : Nat) (x v : Value) (w : World) (K : World → Prop) : Prop :=
  match x with
  | .pointer a =>
    ∃ p, a = some p ∧
      match lk τ.siz t with
      | some (n, _, _) =>
        match v with
        | .agg cs => len' cs.toList = n ∧ ones cs.toList ∧ CanSet w p n ∧ ∀ w1, SetW w p cs.toList w1 → K w1
        | v => n = 1 ∧ one v ∧ CanSet w p 1 ∧ ∀ w1, SetW w p [v] w1 → K w1
      | _ => False
  | _ => False
def allocD (τ : Tab) (t : Nat) (w : World) (K : KW) : Prop :=
  match lk τ.siz t with
  | some (_, _, z) => ∀ w1, NewW w (.cells z.toArray t) w1 → K (.pointer (some ⟨w.heap.size, 0, none⟩)) w1
  | none => False
def boxD (t : Nat) (v : Value) (w : World) (K : KW) : Prop :=
  ∀ w1, NewW w (.cells v.cells t) w1 → K (.pointer (some ⟨w.heap.size, 0, none⟩)) w1
def makeSliceD (τ : Tab) (t : Nat) (l c : Value) (w : World) (K : KW) : Prop :=
  match lk τ.und t, l, c with
  | some (.slice el), .int _ l, .int _ c =>
    match lk τ.siz el with
    | some (_, b, z) =>
      (0 ≤ l ∧ l ≤ c ∧ b * c ≤ 281474976710656 ∧ c ≤ 9223372036854775807) ∧ ∀ w1, NewW w (.cells (zrow z c.toNat) el) w1 → K (.slice (some ⟨w.heap.size, 0, none⟩) l.toNat c.toNat) w1
    | none => False
  | _, _, _ => False
def buildSliceD (τ : Tab) (t len : Nat) (parts : List (Nat × Value)) (w : World) (K : KW) : Prop :=
  match lk τ.und t with
  | some (.slice el) =>
    match lk τ.siz el with
    | some (sz, _, z) =>
      len * sz ≤ 16777216 ∧ fillD (rowPl sz 0 len) (rep z len) parts fun cells => ∀ w1, NewW w (.cells cells.toArray el) w1 → K (.slice (some ⟨w.heap.size, 0, none⟩) len len) w1
    | none => False
  | _ => False
def runD (P : Program) (s : Option Sh) (m : Sem Value) (w : World) (K : KW) : Prop :=
  match s with
  | some s => s.ex fun v => ∃ w', Runs P m w v w' ∧ K v w'
  | none => ∃ v w', Runs P m w v w' ∧ K v w'
/-- what gives no value: one world behind it -/
def updD (P : Program) (m : Sem Unit) (w : World) (K : KW) : Prop := ∃ w', RunsU P m w w' ∧ K undef w'
/-- one step of a range over a map: nothing is left, or an entry comes out -/
def nextD (P : Program) (m : Sem Value) (w : World) (K : KW) : Prop :=
  (∃ w', Runs P m w (.tuple #[.bool false]) w' ∧ K (.tuple #[.bool false]) w') ∨ ∃ k v w', Runs P m w (.tuple #[.bool true, k, v]) w' ∧ K (.tuple #[.bool true, k, v]) w'
/-- the entry that the step gave: its key two numbers -/
def entryD (P : Program) (m : Sem Value) (w : World) (K : KW) : Prop :=
  ∃ (x y : Int) (v : Value) (w' : World), Runs P m w (.tuple #[.agg #[.int .i64 x, .int .i64 y], v]) w' ∧ K (.tuple #[.agg #[.int .i64 x, .int .i64 y], v]) w'
theorem nextD_sound {P : Program} {m : Sem Value} {w : World} {K : KW} (h : nextD P m w K) : ∃ v w', m.run P w = .ok v w' ∧ K v w' := by
  rcases h with ⟨w', h1, h2⟩ | ⟨k, v, w', h1, h2⟩
  · exact ⟨_, _, h1, h2⟩
  · exact ⟨_, _, h1, h2⟩
theorem entryD_sound {P : Program} {m : Sem Value} {w : World} {K : KW} (h : entryD P m w K) : ∃ v w', m.run P w = .ok v w' ∧ K v w' := by
  obtain ⟨x, y, v, w', h1, h2⟩ := h
  exact ⟨_, _, h1, h2⟩
def retK (s : Option Sh) (K : KW) (e : Ending) (w : World) : Prop :=
  match s with
  | some s => s.ex fun v => e = .returned v ∧ K v w
  | none => ∃ v, e = .returned v ∧ K v w
theorem retK_some (s : Sh) (K : KW) : retK (some s) K = fun e w => s.ex fun v => e = .returned v ∧ K v w := rfl
theorem retK_none (K : KW) : retK none K = fun e w => ∃ v, e = .returned v ∧ K v w := rfl
theorem pick_and (c x : Bool) : (bif c then x else false) = (c && x) := by cases c <;> rfl
theorem pick_or (c x : Bool) : (bif c then true else x) = (c || x) := by cases c <;> rfl
theorem Sl.eta (s : Sl) : (⟨s.a, s.n, s.c⟩ : Sl) = s := rfl
def callD (P : Program) (τ : Tab) (ty : Nat) (f : Value) (args : List Value) (w : World) (K : KW) : Prop :=
  match f with
  | .func (.func f) fi ca => isIn τ.fns f = true ∧ Calls P f (fi.toList ++ (args ++ ca.toList)).toArray w (retK (lk τ.sh ty) K)
  | _ => False
/-- in a region that draws its order: one value, whatever has been drawn -/
def callQ (P : Program) (τ : Tab) (ty : Nat) (f : Value) (args : List Value) (w : World) (K : Value → Prop) : Prop :=
  match f with
  | .func (.func f) fi ca => isIn τ.fns f = true ∧
      match lk τ.sh ty with
      | some s => s.ex fun v => (∀ w', Qt w w' → Calls P f (fi.toList ++ (args ++ ca.toList)).toArray w' fun e w'' => e = .returned v ∧ Qt w' w'') ∧ K v
      | none => ∃ v, (∀ w', Qt w w' → Calls P f (fi.toList ++ (args ++ ca.toList)).toArray w' fun e w'' => e = .returned v ∧ Qt w' w'') ∧ K v
  | _ => False

/-- a reading that leaves every world as it was -/
def quietRun (P : Program) (s : Option Sh) (m : Sem Value) (w : World) (K : Value → Prop) : Prop :=
  match s with
  | some s => s.ex fun v => (∀ w', Qt w w' → Runs P m w' v w') ∧ K v
  | none => ∃ v, (∀ w', Qt w w' → Runs P m w' v w') ∧ K v
def convQ (P : Program) (τ : Tab) (s d : Nat) (x : Value) (w : World) (K : Value → Prop) : Prop :=
  match x with
  | .int k n => convD τ s d (.int k n) K
  | x => quietRun P (lk τ.sh d) (convert s d x) w K
/-- does it leave the world alone? -/
def isPure : Op → Bool
  | .move _ | .assign _ | .pick _ _ _ | .binOp _ _ _ _ _ | .unOp _ _ _ | .extract _ _ | .field _ _ _ | .fieldAddr _ _ _ | .indexAddr _ _ _ | .index _ _ _
  | .slice _ _ _ _ _ | .nilCheck _ | .build _ _ | .makeFunc _ _ _ | .makeInterface _ _ => true
  | .call c => match c.callee with
    | .builtin .len | .builtin .cap | .builtin .min | .builtin .max => true
    | _ => false
  | _ => false

def opD (P : Program) (τ : Tab) (o : Op) (ty : Nat) (e : Env) (w : World) (K : KW) : Prop :=
  match o with
  | .load t x => loadD τ t (ev e x) w fun v => K v w
  | .store t x y => storeD τ t (ev e x) (ev e y) w fun w' => K undef w'
  | .alloc t => allocD τ t w K
  | .box t x => boxD t (ev e x) w K
  | .makeSlice t l c => makeSliceD τ t (ev e l) (ev e c) w K
  | .buildSlice t n parts => buildSliceD τ t n (parts.toList.map fun p => (p.1, ev e p.2)) w K
  | .convert s d x =>
    match ev e x with
    | .int k n => convD τ s d (.int k n) fun v => K v w
    | x => runD P (lk τ.sh d) (convert s d x) w K
  | .call c =>
    match c.callee with
    | .value f => callD P τ ty (ev e f) (c.args.toList.map (ev e)) w K
    | .builtin .append => runD P (lk τ.sh ty) (Builtin.append_ c.argTypes ty (c.args.toList.map (ev e)).toArray) w K
    | .builtin .copy => runD P (some (.int .i64)) (Builtin.copy_ c.argTypes ty (c.args.toList.map (ev e)).toArray) w K
    | .builtin .clear => runD P none (Builtin.clear_ c.argTypes ty (c.args.toList.map (ev e)).toArray) w K
    | _ => pureD τ (.call c) e fun v => K v w
  | .makeMap t r => runD P (some .map) (Instr.makeMap t (r.map (ev e))) w K
  | .lookup t x i ok => runD P (lk τ.sh ty) (Instr.lookup t (ev e x) (ev e i) ok) w K
  | .mapUpdate t m k x => updD P (Instr.mapUpdate t (ev e m) (ev e k) (ev e x)) w K
  | .insert t m k x => updD P (Instr.mapUpdate t (ev e m) (ev e k) (ev e x)) w K
  | .range t x => runD P (some .ptr) (Instr.range t (ev e x)) w K
  | .next x s => nextD P (Instr.next (ev e x) s ty) w K
  | .entry x => entryD P (Instr.entry (ev e x)) w K
  | o => pureD τ o e fun v => K v w

def qopD (P : Program) (τ : Tab) (o : Op) (ty : Nat) (e : Env) (w : World) (K : Value → Prop) : Prop :=
  match o with
  | .load t x => loadD τ t (ev e x) w K
  | .call c =>
    match c.callee with
    | .value f => callQ P τ ty (ev e f) (c.args.toList.map (ev e)) w K
    | _ => pureD τ (.call c) e K
  | .convert s d x => convQ P τ s d (ev e x) w K
  | o => pureD τ o e K

def gdst (all : List Oper) (j : Nat) : Option Nat :=
  match all, j with
  | [], _ => none
  | o :: _, 0 => o.dst
  | _ :: l, n + 1 => gdst l n
/-- the guard -/
def guardD (all : List Oper) (g : Option (Nat × Bool)) (e : Env) (yes no : Env → Prop) : Prop :=
  match g with
  | none => yes e
  | some (j, want) =>
    match gdst all j with
    | some d =>
      match rd e d with
      | .bool b => gd b want (yes (wr e d (.bool want))) (no (wr e d (.bool (!want))))
      | _ => no e
    | none => False

/-! ### loops and cuts: what is carried -/
abbrev Car := List (Nat × Sh)
def Cur : Car → Type
  | [] => World → Prop
  | (_, s) :: l => s.T → Cur l
def CurN : Car → Type
  | [] => World → Nat
  | (_, s) :: l => s.T → CurN l
def headD : (vs : Car) → Env → Cur vs → World → Prop
  | [], _, J, w => J w
  | (t, s) :: l, e, J, w => s.get (rd e t) fun x => headD l e (J x) w
def headN : (vs : Car) → Env → Cur vs → CurN vs → World → Nat → Prop
  | [], _, J, μ, w, m => J w ∧ μ w < m
  | (t, s) :: l, e, J, μ, w, m => s.get (rd e t) fun x => headN l e (J x) (μ x) w m
def allS (s : Sh) (K : s.T → Prop) : Prop :=
  match s, K with
  | .int _, K => ∀ n : Int, K n
  | .bool, K => ∀ b : Bool, K b
  | .str, K => ∀ b : ByteArray, K b
  | .ptr, K => ∀ a : Option Addr, K a
  | .slice, K => ∀ s : Sl, K s
  | .map, K => ∀ r : Option Nat, K r
  | .raw, K => ∀ v : Value, K v
  | .agg _, K => ∀ v : Value, K v
  | .tup _, K => ∀ v : Value, K v
  | .clo _ _, K => ∀ v : Value, K v
  | .fnv _ _, K => ∀ v : Value, K v
def allD : (vs : Car) → Env → Cur vs → (Env → World → Prop) → Prop
  | [], e, J, K => ∀ w, J w → K e w
  | (t, s) :: l, e, J, K => allS s fun x => allD l (wr e t (s.V x)) (J x) K
def allN : (vs : Car) → Env → Cur vs → CurN vs → (Env → World → Nat → Prop) → Prop
  | [], e, J, μ, K => ∀ w, J w → K e w (μ w)
  | (t, s) :: l, e, J, μ, K => allS s fun x => allN l (wr e t (s.V x)) (J x) (μ x) K
def havoc (e : Env) (junk : Nat → Value) : List Nat → Env
  | [] => e
  | t :: l => havoc (wr e t (junk t)) junk l

def asgO : List Oper → List Nat
  | [] => []
  | o :: r => match o.dst with
    | some d => d :: asgO r
    | none => asgO r
def asg : Code → List Nat
  | .region _ ops _ => asgO ops.toList
  | .seq a b => asg a ++ asg b
  | .cond _ x y => asg x ++ asg y
  | .block _ c => asg c
  | .loop c => asg c
  | .scope c => asg c
  | _ => []
/-- the same, laid ahead of others -/
def asgOA : List Oper → List Nat → List Nat
  | [], acc => acc
  | o :: r, acc => match o.dst with
    | some d => asgOA r (d :: acc)
    | none => asgOA r acc
def asgA : Code → List Nat → List Nat
  | .region _ ops _, acc => asgOA ops.toList acc
  | .seq a b, acc => asgA b (asgA a acc)
  | .cond _ x y, acc => asgA y (asgA x acc)
  | .block _ c, acc => asgA c acc
  | .loop c, acc => asgA c acc
  | .scope c, acc => asgA c acc
  | _, acc => acc
theorem mem_asgOA : ∀ (l : List Oper) (acc : List Nat) (t : Nat), t ∈ asgO l ∨ t ∈ acc → t ∈ asgOA l acc
  | [], acc, t, h => by
    rcases h with h | h
    · simp [asgO] at h
    · exact h
  | o :: r, acc, t, h => by
    unfold asgOA
    unfold asgO at h
    cases hd : o.dst with
    | none => rw [hd] at h; exact mem_asgOA r acc t h
    | some d =>
      rw [hd] at h
      refine mem_asgOA r (d :: acc) t ?_
      rcases h with h | h
      · rcases List.mem_cons.1 h with rfl | h
        · exact .inr (List.mem_cons_self ..)
        · exact .inl h
      · exact .inr (List.mem_cons_of_mem _ h)
theorem mem_asgA : ∀ (c : Code) (acc : List Nat) (t : Nat), t ∈ asg c ∨ t ∈ acc → t ∈ asgA c acc := by
  intro c
  induction c with
  | region i ops d => intro acc t h; exact mem_asgOA _ acc t h
  | seq a b iha ihb =>
    intro acc t h
    refine ihb _ t ?_
    rcases h with h | h
    · rcases List.mem_append.1 h with h | h
      · exact .inr (iha acc t (.inl h))
      · exact .inl h
    · exact .inr (iha acc t (.inr h))
  | cond c x y ihx ihy =>
    intro acc t h
    refine ihy _ t ?_
    rcases h with h | h
    · rcases List.mem_append.1 h with h | h
      · exact .inr (ihx acc t (.inl h))
      · exact .inl h
    · exact .inr (ihx acc t (.inr h))
  | block i c ih => intro acc t h; exact ih acc t h
  | loop c ih => intro acc t h; exact ih acc t h
  | scope c ih => intro acc t h; exact ih acc t h
  | _ =>
    intro acc t h
    rcases h with h | h
    · simp [asg] at h
    · exact h
/-- the number of the first region -/
def frId : Code → Option Nat
  | .region i _ _ => some i
  | .seq a b => match frId a with
    | some i => some i
    | none => frId b
  | .cond _ x y => match frId x with
    | some i => some i
    | none => frId y
  | .block _ c => frId c
  | .loop c => frId c
  | .scope c => frId c
  | _ => none
abbrev Ann := List (Nat × Car)
abbrev EPost := Exit → Env → World → Prop
def inBlk (id : Nat) (Q : EPost) : EPost
  | .exit id', e, w => if id' = id then Q .normal e w else Q (.exit id') e w
  | .normal, e, w => Q .normal e w
  | .goto l, e, w => Q (.goto l) e w
  | .ret, e, w => Q .ret e w
  | .panic c, e, w => Q (.panic c) e w
  | .outgrown, e, w => Q .outgrown e w
def thenE (N : Env → World → Prop) (Q : EPost) : EPost
  | .normal, e, w => N e w
  | .exit i, e, w => Q (.exit i) e w
  | .goto l, e, w => Q (.goto l) e w
  | .ret, e, w => Q .ret e w
  | .panic c, e, w => Q (.panic c) e w
  | .outgrown, e, w => Q .outgrown e w
def noGoE (Q : EPost) : EPost
  | .goto _, _, _ => False
  | .normal, e, w => Q .normal e w
  | .exit i, e, w => Q (.exit i) e w
  | .ret, e, w => Q .ret e w
  | .panic c, e, w => Q (.panic c) e w
  | .outgrown, e, w => Q .outgrown e w

end Go.Proofs.YtihnjjmbcbfheaaDoor.V
