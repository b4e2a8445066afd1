/-
  The frame of all walks: a function 'den' that says, of a piece of code and a frame given as a list of values, what has to be shown, in plain words on values; and the proof that it is enough.
-/
import Derived.WalkKit
import Derived.WalkSpells
import Derived.WalkLawsBesides
import Derived.Deep.Quiet
import Derived.Deep.Draws
import Derived.KernelRfl
import Derived.Laws.StructEq
import Derived.RangeFuncNested
namespace Go.Proofs.YtihnjjmbcbfheaaDoor.V
open Go Go.RowKit
set_option linter.unusedVariables false
set_option linter.unusedSimpArgs false

/-! ### frames -/
abbrev Env := List Value
def rd : Env → Nat → Value
  | [], _ => undef
  | v :: _, 0 => v
  | _ :: l, n + 1 => rd l n
def wr : Env → Nat → Value → Env
  | [], _, _ => []
  | _ :: l, 0, v => v :: l
  | x :: l, n + 1, v => x :: wr l n v
def ev (e : Env) : Operand → Value
  | .tmp t => rd e t
  | .const v => v
  | .global g => .pointer (some ⟨g, 0, none⟩)
  | .func f => .func (.func f) #[] #[]
def put (e : Env) (d : Option Nat) (v : Value) : Env :=
  match d with
  | some d => wr e d v
  | none => e
abbrev act (e : Env) : Act := ⟨e.toArray, []⟩

theorem rd_eq : ∀ (e : Env) (t : Nat), rd e t = e.getD t undef
  | [], _ => rfl
  | _ :: _, 0 => rfl
  | _ :: l, n + 1 => by simpa [rd] using rd_eq l n
theorem wr_eq : ∀ (e : Env) (t : Nat) (v : Value), wr e t v = e.set t v
  | [], _, _ => rfl
  | _ :: _, 0, _ => rfl
  | x :: l, n + 1, v => by simp [wr, wr_eq l n v]
theorem ev_eq (e : Env) : (act e).eval = ev e := by
  funext x
  cases x with
  | tmp t => simp [Act.eval, ev, rd_eq, act]
  | const v => rfl
  | global g => rfl
  | func f => rfl
theorem put_eq (e : Env) (d : Option Nat) (v : Value) : (act e).put d v = act (put e d v) := by
  cases d with
  | none => rfl
  | some d => simp [Act.put, put, act, wr_eq]

theorem rd_wr : ∀ (e : Env) (t u : Nat) (v : Value), u ≠ t → rd (wr e t v) u = rd e u := by
  intro e t u v h
  simp [rd_eq, wr_eq, List.getElem?_set, Ne.symm h]
theorem length_wr (e : Env) (t : Nat) (v : Value) : (wr e t v).length = e.length := by simp [wr_eq]

/-- outside the slots of l two frames are the same -/
structure Same (l : List Nat) (e e' : Env) : Prop where
  len : e'.length = e.length
  out : ∀ t, t ∉ l → rd e' t = rd e t
theorem Same.refl (l : List Nat) (e : Env) : Same l e e := ⟨rfl, fun _ _ => rfl⟩
theorem Same.trans {l : List Nat} {a b c : Env} (h : Same l a b) (k : Same l b c) : Same l a c :=
  ⟨k.len.trans h.len, fun t ht => (k.out t ht).trans (h.out t ht)⟩
theorem Same.mono {l l' : List Nat} {a b : Env} (h : Same l a b) (hl : ∀ t, t ∈ l → t ∈ l') : Same l' a b :=
  ⟨h.len, fun t ht => h.out t fun h' => ht (hl t h')⟩
theorem Same.put (e : Env) (d : Option Nat) (v : Value) {l : List Nat} (hd : ∀ x, d = some x → x ∈ l) : Same l e (put e d v) := by
  cases d with
  | none => exact .refl l e
  | some d => exact ⟨length_wr e d v, fun t ht => rd_wr e d t v fun h => ht (h ▸ hd d rfl)⟩

theorem env_ext {a b : Env} (hl : a.length = b.length) (h : ∀ t, rd a t = rd b t) : a = b := by
  apply List.ext_getElem hl
  intro i h1 h2
  have := h i
  rw [rd_eq, rd_eq] at this
  simpa [List.getElem?_eq_getElem h1, List.getElem?_eq_getElem h2] using this

/-! ### slices and shapes -/
structure Sl where
  a : Option Addr
  n : Nat
  c : Nat
abbrev Sl.val (s : Sl) : Value := .slice s.a s.n s.c

inductive Sh where
  | int (k : IntKind) | bool | str | ptr | slice | raw | map | agg (l : List Sh) | tup (l : List Sh) | clo (f n : Nat) | fnv (f n : Nat)

/-- any value of a shape -/
def Sh.T : Sh → Type
  | .int _ => Int
  | .bool => Bool
  | .str => ByteArray
  | .ptr => Option Addr
  | .slice => Sl
  | .map => Option Nat
  | _ => Value
def Sh.V : (s : Sh) → s.T → Value
  | .int k, n => .int k n
  | .bool, b => .bool b
  | .str, b => .string b
  | .ptr, a => .pointer a
  | .slice, s => .slice s.a s.n s.c
  | .map, r => .map r
  | .raw, v => v
  | .agg _, v => v
  | .tup _, v => v
  | .clo _ _, v => v
  | .fnv _ _, v => v
/-- reading a value by its shape -/
def Sh.get : (s : Sh) → Value → (s.T → Prop) → Prop
  | .int k, .int k' n, K => k' = k ∧ K n
  | .bool, .bool b, K => K b
  | .str, .string b, K => K b
  | .ptr, .pointer a, K => K a
  | .slice, .slice a n c, K => K ⟨a, n, c⟩
  | .map, .map r, K => K r
  | .raw, v, K => K v
  | .clo _ _, v, K => K v
  | .fnv _ _, v, K => K v
  | _, _, _ => False
/-- n pointers, whatever they are -/
def exP : Nat → (List Value → Prop) → Prop
  | 0, K => K []
  | n + 1, K => ∃ a : Option Addr, exP n fun l => K (.pointer a :: l)
theorem exP_spec : ∀ (n : Nat) (K : List Value → Prop), exP n K → ∃ l, K l
  | 0, K, h => ⟨[], h⟩
  | n + 1, K, h => let ⟨a, h⟩ := h; let ⟨l, h⟩ := exP_spec n _ h; ⟨.pointer a :: l, h⟩
theorem Sh.get_spec (s : Sh) (v : Value) (K : s.T → Prop) (h : s.get v K) : ∃ x, v = s.V x ∧ K x := by
  cases s <;> cases v <;> simp only [Sh.get] at h <;> first | exact h.elim | skip
  all_goals first
    | exact ⟨_, rfl, h⟩
    | (obtain ⟨rfl, h⟩ := h; exact ⟨_, rfl, h⟩)

mutual
/-- there is a value of the shape -/
def Sh.ex : Sh → (Value → Prop) → Prop
  | .int k, K => ∃ n : Int, K (.int k n)
  | .bool, K => ∃ b : Bool, K (.bool b)
  | .str, K => ∃ b : ByteArray, K (.string b)
  | .ptr, K => ∃ a : Option Addr, K (.pointer a)
  | .slice, K => ∃ s : Sl, K (.slice s.a s.n s.c)
  | .map, K => ∃ r : Option Nat, K (.map r)
  | .raw, K => ∃ v : Value, K v
  | .agg l, K => Sh.exL l fun vs => K (.agg vs.toArray)
  | .tup l, K => Sh.exL l fun vs => K (.tuple vs.toArray)
  | .clo f n, K => exP n fun l => K (.func (.func f) #[] l.toArray)
  | .fnv f n, K => K .nilFunc ∨ exP n fun l => K (.func (.func f) #[] l.toArray)
def Sh.exL : List Sh → (List Value → Prop) → Prop
  | [], K => K []
  | s :: l, K => Sh.ex s fun v => Sh.exL l fun vs => K (v :: vs)
end
mutual
theorem Sh.ex_spec : ∀ (s : Sh) (K : Value → Prop), s.ex K → ∃ v, K v
  | .int k, K, h => let ⟨n, h⟩ := h; ⟨_, h⟩
  | .bool, K, h => let ⟨n, h⟩ := h; ⟨_, h⟩
  | .str, K, h => let ⟨n, h⟩ := h; ⟨_, h⟩
  | .ptr, K, h => let ⟨n, h⟩ := h; ⟨_, h⟩
  | .slice, K, h => let ⟨n, h⟩ := h; ⟨_, h⟩
  | .map, K, h => let ⟨n, h⟩ := h; ⟨_, h⟩
  | .raw, K, h => let ⟨n, h⟩ := h; ⟨_, h⟩
  | .agg l, K, h => let ⟨vs, h⟩ := Sh.exL_spec l _ h; ⟨_, h⟩
  | .tup l, K, h => let ⟨vs, h⟩ := Sh.exL_spec l _ h; ⟨_, h⟩
  | .clo f n, K, h => let ⟨vs, h⟩ := exP_spec n _ h; ⟨_, h⟩
  | .fnv f n, K, h => h.elim (fun h => ⟨_, h⟩) fun h => let ⟨vs, h⟩ := exP_spec n _ h; ⟨_, h⟩
theorem Sh.exL_spec : ∀ (l : List Sh) (K : List Value → Prop), Sh.exL l K → ∃ vs, K vs
  | [], K, h => ⟨[], h⟩
  | s :: l, K, h =>
    let ⟨v, h⟩ := Sh.ex_spec s _ h
    let ⟨vs, h⟩ := Sh.exL_spec l _ h
    ⟨v :: vs, h⟩
end

/-! ### what is known of the types -/
inductive TD where
  | bool | int (k : IntKind) | string | pointer (e : Nat) | slice (e : Nat) | struct (fs : List (Nat × Nat)) | func | map (k e : Nat) | array (n e : Nat) | iface | other
def strip : TypeDesc → TD
  | .bool => .bool
  | .int k => .int k
  | .string => .string
  | .pointer e => .pointer e
  | .slice e => .slice e
  | .struct fs => .struct (fs.toList.map fun f => (f.offset, f.type))
  | .func _ _ _ => .func
  | .map k e => .map k e
  | .array n e => .array n e
  | .interface _ => .iface
  | _ => .other
structure Tab where
  und : List (Nat × TD)                       -- underlying
  siz : List (Nat × Nat × Nat × List Value)         -- cells, bytes, the zero value's cells
  sh : List (Nat × Sh)                              -- shapes (no promise)
  fns : List Nat                                    -- functions with a body
  eqs : List Nat := []                              -- structs of plain fields that may be held against one another
def lk {α : Type} : List (Nat × α) → Nat → Option α
  | [], _ => none
  | (k, v) :: l, n => if k = n then some v else lk l n
theorem lk_mem {α : Type} : ∀ (l : List (Nat × α)) (n : Nat) (v : α), lk l n = some v → (n, v) ∈ l
  | [], _, _, h => by simp [lk] at h
  | (k, x) :: l, n, v, h => by
    unfold lk at h
    split at h
    · rename_i hk; subst hk; injection h with h; subst h; simp
    · exact List.mem_cons_of_mem _ (lk_mem l n v h)
def isIn : List Nat → Nat → Bool
  | [], _ => false
  | k :: l, n => if k = n then true else isIn l n
theorem isIn_mem : ∀ (l : List Nat) (n : Nat), isIn l n = true → n ∈ l
  | [], _, h => by simp [isIn] at h
  | k :: l, n, h => by
    unfold isIn at h
    split at h
    · rename_i hk; subst hk; simp
    · exact List.mem_cons_of_mem _ (isIn_mem l n h)

structure Tab.Ok (P : Program) (τ : Tab) : Prop where
  und : ∀ t d, lk τ.und t = some d → (P.underlying t).map strip = some d
  siz : ∀ t n b z, lk τ.siz t = some (n, b, z) → ∃ i, P.info? t = some i ∧ i.size = n ∧ i.bytes = b ∧ z.length = n ∧ ∃ zv, i.zero = some zv ∧ zv.cells = z.toArray
  fns : ∀ f, isIn τ.fns f = true → ∃ fn, P.funcs[f]? = some fn ∧ (fn.name == "runtime.NumGoroutine") = false ∧ fn.body.isNone = false
  mixed : P.follows .mixedOrders = true
  eqs : ∀ t, isIn τ.eqs t = true → P.eqGuardType P.depth t = false ∧ P.stoodInHeld t = false ∧ ∀ f ∈ (P.fieldsOf t).toList, f.name ≠ "_"

section
variable {P : Program} {τ : Tab}
theorem Tab.Ok.any (hτ : τ.Ok P) {t : Nat} {d : TD} (h : lk τ.und t = some d) : ∃ d', P.underlying t = some d' ∧ strip d' = d := by
  have := hτ.und t d h
  cases hu : P.underlying t with
  | none => rw [hu] at this; cases this
  | some d' => rw [hu] at this; exact ⟨d', rfl, by simpa using this⟩
theorem Tab.Ok.slice (hτ : τ.Ok P) {t e : Nat} (h : lk τ.und t = some (.slice e)) : P.underlying t = some (.slice e) := by
  obtain ⟨d', h1, h2⟩ := hτ.any h
  cases d' <;> simp [strip] at h2
  subst h2; exact h1
theorem Tab.Ok.pointer (hτ : τ.Ok P) {t e : Nat} (h : lk τ.und t = some (.pointer e)) : P.underlying t = some (.pointer e) := by
  obtain ⟨d', h1, h2⟩ := hτ.any h
  cases d' <;> simp [strip] at h2
  subst h2; exact h1
theorem Tab.Ok.int (hτ : τ.Ok P) {t : Nat} {k : IntKind} (h : lk τ.und t = some (.int k)) : P.underlying t = some (.int k) := by
  obtain ⟨d', h1, h2⟩ := hτ.any h
  cases d' <;> simp [strip] at h2
  subst h2; exact h1
theorem Tab.Ok.bool (hτ : τ.Ok P) {t : Nat} (h : lk τ.und t = some .bool) : P.underlying t = some .bool := by
  obtain ⟨d', h1, h2⟩ := hτ.any h
  cases d' <;> simp [strip] at h2
  exact h1
theorem Tab.Ok.string (hτ : τ.Ok P) {t : Nat} (h : lk τ.und t = some .string) : P.underlying t = some .string := by
  obtain ⟨d', h1, h2⟩ := hτ.any h
  cases d' <;> simp [strip] at h2
  exact h1
theorem Tab.Ok.func (hτ : τ.Ok P) {t : Nat} (h : lk τ.und t = some .func) : ∃ a b c, P.underlying t = some (.func a b c) := by
  obtain ⟨d', h1, h2⟩ := hτ.any h
  cases d' <;> simp [strip] at h2
  exact ⟨_, _, _, h1⟩
theorem Tab.Ok.map (hτ : τ.Ok P) {t k e : Nat} (h : lk τ.und t = some (.map k e)) : P.underlying t = some (.map k e) := by
  obtain ⟨d', h1, h2⟩ := hτ.any h
  cases d' <;> simp [strip] at h2
  obtain ⟨rfl, rfl⟩ := h2; exact h1
theorem Tab.Ok.struct (hτ : τ.Ok P) {t : Nat} {l : List (Nat × Nat)} (h : lk τ.und t = some (.struct l)) :
    ∃ fs, P.underlying t = some (.struct fs) ∧ fs.toList.map (fun f => (f.offset, f.type)) = l := by
  obtain ⟨d', h1, h2⟩ := hτ.any h
  cases d' <;> simp [strip] at h2
  exact ⟨_, h1, h2⟩
theorem Tab.Ok.iface (hτ : τ.Ok P) {t : Nat} (h : lk τ.und t = some .iface) : ∃ ms, P.underlying t = some (.interface ms) := by
  obtain ⟨d', h1, h2⟩ := hτ.any h
  cases d' <;> simp [strip] at h2
  exact ⟨_, h1⟩
theorem tabOk_eqs (l : List Nat) (h : ∀ t ∈ l, (P.eqGuardType P.depth t, P.stoodInHeld t, (P.fieldsOf t).toList.all fun f => f.name != "_") = (false, false, true)) :
    ∀ t, isIn l t = true → P.eqGuardType P.depth t = false ∧ P.stoodInHeld t = false ∧ ∀ f ∈ (P.fieldsOf t).toList, f.name ≠ "_" := by
  intro t ht
  have := h t (isIn_mem l t ht)
  simp only [Prod.mk.injEq] at this
  refine ⟨this.1, this.2.1, fun f hf => ?_⟩
  have := List.all_eq_true.1 this.2.2 f hf
  simpa using this
/-- the table, row by row -/
theorem tabOk_und (l : List (Nat × TD)) (h : ∀ x ∈ l, (P.underlying x.1).map strip = some x.2) : ∀ t d, lk l t = some d → (P.underlying t).map strip = some d :=
  fun t d hd => h (t, d) (lk_mem l t d hd)
theorem tabOk_siz (l : List (Nat × Nat × Nat × List Value)) (h : ∀ x ∈ l, (P.info? x.1).map (fun i => (i.size, i.bytes, x.2.2.2.length, i.zero.map fun z => z.cells)) = some (x.2.1, x.2.2.1, x.2.1, some x.2.2.2.toArray)) :
    ∀ t n b z, lk l t = some (n, b, z) → ∃ i, P.info? t = some i ∧ i.size = n ∧ i.bytes = b ∧ z.length = n ∧ ∃ zv, i.zero = some zv ∧ zv.cells = z.toArray := by
  intro t n b z hd
  have := h _ (lk_mem l t _ hd)
  simp only [] at this
  cases hi : P.info? t with
  | none => rw [hi] at this; cases this
  | some i =>
    rw [hi] at this
    simp only [Option.map_some, Option.some.injEq, Prod.mk.injEq] at this
    obtain ⟨h1, h2, h3, h4⟩ := this
    cases hz : i.zero with
    | none => rw [hz] at h4; cases h4
    | some zv => rw [hz] at h4; exact ⟨i, rfl, h1, h2, h3, zv, hz, by simpa using h4⟩
theorem tabOk_fns (l : List Nat) (h : ∀ f ∈ l, (P.funcs[f]?).map (fun fn => (fn.name == "runtime.NumGoroutine", fn.body.isNone)) = some (false, false)) :
    ∀ f, isIn l f = true → ∃ fn, P.funcs[f]? = some fn ∧ (fn.name == "runtime.NumGoroutine") = false ∧ fn.body.isNone = false := by
  intro f hf
  have := h f (isIn_mem l f hf)
  cases hi : P.funcs[f]? with
  | none => rw [hi] at this; cases this
  | some fn =>
    rw [hi] at this
    simp only [Option.map_some, Option.some.injEq, Prod.mk.injEq] at this
    exact ⟨fn, rfl, this.1, this.2⟩
end
end Go.Proofs.YtihnjjmbcbfheaaDoor.V
