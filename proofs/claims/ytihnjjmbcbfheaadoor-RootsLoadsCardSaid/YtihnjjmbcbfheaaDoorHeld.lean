/-
  Regions that draw their order and hold calls that write or make memory: one order stands for all, if what is read stays as it is over what the calls may turn.
-/
import Derived.Test.YtihnjjmbcbfheaaDoorCps
import Derived.OrdersHeld
import Derived.OrdersIn
namespace Go.Proofs.YtihnjjmbcbfheaaDoor.V
open Go Go.RowKit
set_option linter.unusedVariables false
set_option linter.unusedSimpArgs false

/-- what was there is as it was, but for the blocks of S -/
structure Upd (S : Nat → Prop) (w w' : World) : Prop where
  os : w'.os = w.os
  tape : w'.tape = w.tape
  output : w'.output = w.output
  size : w.heap.size ≤ w'.heap.size
  block : ∀ k, k < w.heap.size → ¬ S k → w'.heap[k]? = w.heap[k]?
abbrev Ext (w w' : World) : Prop := Upd (fun _ => False) w w'

section
variable {w w' w1 w2 a b c : World} {S T R : Nat → Prop}
theorem Upd.refl (S : Nat → Prop) (w : World) : Upd S w w := ⟨rfl, rfl, rfl, Nat.le_refl _, fun _ _ _ => rfl⟩
theorem Upd.trans (h : Upd S a b) (k : Upd T b c) (hR : ∀ i, i < a.heap.size → ¬ R i → ¬ S i ∧ ¬ T i) : Upd R a c :=
  ⟨k.os.trans h.os, k.tape.trans h.tape, k.output.trans h.output, Nat.le_trans h.size k.size,
    fun i hi hr => (k.block i (Nat.lt_of_lt_of_le hi h.size) (hR i hi hr).2).trans (h.block i hi (hR i hi hr).1)⟩
theorem Upd.mono (h : Upd S a b) (hR : ∀ i, i < a.heap.size → ¬ R i → ¬ S i) : Upd R a b := ⟨h.os, h.tape, h.output, h.size, fun i hi hr => h.block i hi (hR i hi hr)⟩
theorem Upd.ext (h : Upd S a b) (k : Ext b c) : Upd S a c := h.trans k fun _ _ h => ⟨h, not_false⟩
theorem Ext.upd (h : Ext a b) (k : Upd S b c) : Upd S a c := h.trans k fun _ _ h => ⟨not_false, h⟩
theorem Ext.refl (w : World) : Ext w w := Upd.refl _ w
theorem Ext.trans (h : Ext a b) (k : Ext b c) : Ext a c := Upd.ext h k
/-- writes into what is new are no change -/
theorem Ext.fresh (h : Ext a b) (k : Upd S b c) (hS : ∀ i, S i → a.heap.size ≤ i) : Ext a c :=
  Upd.trans h k fun i hi _ => ⟨not_false, fun hs => by have := hS i hs; omega⟩
theorem Upd.fresh (h : Upd S a b) (k : Upd T b c) (hT : ∀ i, T i → a.heap.size ≤ i ∨ S i) : Upd S a c :=
  Upd.trans h k fun i hi hs => ⟨hs, fun ht => by rcases hT i ht with h | h; omega; exact hs h⟩
theorem Upd.same (h : Upd S a b) (k : Upd S b c) : Upd S a c := h.trans k fun _ _ h => ⟨h, h⟩
theorem Qt.ext (h : Qt w w') : Ext w w' := by obtain ⟨n, rfl⟩ := h; exact ⟨rfl, rfl, rfl, Nat.le_refl _, fun _ _ _ => rfl⟩
theorem Qt.size (h : Qt w w') : w'.heap.size = w.heap.size := by rw [h.heap]
theorem NewW.ext {o : Obj} (h : NewW w o w') : Ext w w' := by
  subst h
  exact ⟨rfl, rfl, rfl, by simp, fun k hk _ => Below.heap_alloc w o k hk⟩
theorem NewW.size {o : Obj} (h : NewW w o w') : w'.heap.size = w.heap.size + 1 := by subst h; simp
theorem NewW.new {o : Obj} (h : NewW w o w') : w'.heap[w.heap.size]? = some o := by subst h; exact heap_alloc_new w o
theorem Upd.of_grown {row : Option Nat} (h : w.grownBy w' row) : Upd (fun k => row = some k) w w' :=
  ⟨h.os, h.tape, h.output, h.size, fun k hk hs => h.block k hk fun e => hs e.symm⟩
theorem Upd.below (h : Ext w w') : Below w.heap.size w w' := ⟨h.os, h.tape, h.output, h.size, fun k hk => h.block k hk not_false⟩
theorem Upd.cell (h : Upd S a b) {p : Addr} {v : Value} (hc : a.cell? p = some v) (hS : ¬ S p.block) : b.cell? p = some v := by
  have hlt : p.block < a.heap.size := by
    rcases Nat.lt_or_ge p.block a.heap.size with h | h
    · exact h
    · unfold World.cell? at hc
      rw [Array.getElem?_eq_none h] at hc
      cases hc
  rw [World.cell?_of_block (w := a) (h.block p.block hlt hS)]
  exact hc
end


section
variable {P : Program} {ops : Array Oper} {md : Region.Mode} {Q : Exit → Act → World → Prop} {R : World → World → Prop} {ex : Nat → Bool}
/-- whoever is listed came behind those that bind him -/
def Closed (md : Region.Mode) (ops : Array Oper) (listed : Array Bool) : Prop :=
  ∀ j o, ops[j]? = some o → listed.getD j true = true → ∀ e ∈ o.after, Region.binds md e = true → listed.getD e.on false = true
theorem Closed.init : Closed md ops (Array.replicate ops.size false) := by
  intro j o ho h
  have hlt : j < ops.size := (Array.getElem?_eq_some_iff.1 ho).1
  simp [hlt] at h
theorem Closed.set {listed : Array Bool} {i : Nat} (h : Closed md ops listed) (hi : i ∈ Region.ready md ops listed) : Closed md ops (listed.setIfInBounds i true) := by
  intro j o ho hj e he hb
  by_cases hji : i = j
  · subst hji
    obtain ⟨_, o', ho', hall⟩ := mem_ready.1 hi
    rw [ho] at ho'; injection ho' with ho'; subst ho'
    exact getD_set_true (hall e he hb)
  · rw [getD_set_ne true hji] at hj
    exact getD_set_true (h j o ho hj e he hb)
def preds (md : Region.Mode) (ops : Array Oper) (i : Nat) : List Nat :=
  match ops[i]? with
  | some o => (o.after.toList.filter fun e => Region.binds md e).map fun e => e.on
  | none => []
/-- who comes behind one of these, along an order -/
def deps (md : Region.Mode) (ops : Array Oper) : List Nat → List Nat → List Nat
  | [], acc => acc
  | j :: r, acc => deps md ops r (if (preds md ops j).any (fun x => acc.contains x) then j :: acc else acc)
theorem getD_unlisted {listed : Array Bool} {i : Nat} (h : listed.getD i true = false) : listed.getD i false = false := by
  rcases Nat.lt_or_ge i listed.size with h' | h'
  · simp [h'] at h ⊢; exact h
  · simp [Array.getElem?_eq_none h'] at h
theorem deps_spec {listed : Array Bool} (hc : Closed md ops listed) (i : Nat) : ∀ (r acc : List Nat),
    (∀ x ∈ acc, listed.getD x true = false ∧ (x = i ∨ x ∉ Region.ready md ops listed)) → ∀ x ∈ deps md ops r acc, listed.getD x true = false ∧ (x = i ∨ x ∉ Region.ready md ops listed)
  | [], _, h => h
  | j :: r, acc, h => by
    refine deps_spec hc i r _ ?_
    intro x hx
    split at hx
    · rename_i hp
      rcases List.mem_cons.1 hx with rfl | hx
      · obtain ⟨y, hy, hya⟩ := List.any_eq_true.1 hp
        have hy' := h y (by simpa using hya)
        unfold preds at hy
        cases ho : ops[x]? with
        | none => rw [ho] at hy; cases hy
        | some o =>
          rw [ho] at hy
          obtain ⟨e, he, rfl⟩ := List.mem_map.1 hy
          obtain ⟨he, hb⟩ := List.mem_filter.1 he
          have he' : e ∈ o.after := by simpa using he
          refine ⟨?_, .inr fun hr => ?_⟩
          · cases hl : listed.getD x true with
            | false => rfl
            | true =>
              have := hc x o ho hl e he' hb
              rw [getD_unlisted hy'.1] at this
              cases this
          · obtain ⟨_, o', ho', hall⟩ := mem_ready.1 hr
            rw [ho] at ho'; injection ho' with ho'; subst ho'
            have := hall e he' hb
            rw [getD_unlisted hy'.1] at this
            cases this
      · exact h x hx
    · exact h x hx
/-- no operation of the region defers -/
def noDefer : List Oper → Bool
  | [] => true
  | o :: l => (match o.op with
    | .defer _ => false
    | _ => true) && noDefer l
theorem noDefer_spec : ∀ (l : List Oper), noDefer l = true → ∀ (j : Nat) (o : Oper), l[j]? = some o → ∀ c, o.op ≠ .defer c
  | [], _, j, o, h => by simp at h
  | x :: l, h, j, o, hj => by
    unfold noDefer at h
    rw [Bool.and_eq_true] at h
    cases j with
    | zero =>
      simp at hj; subst hj
      intro c hc
      rw [hc] at h
      simp at h
    | succ j => exact noDefer_spec l h.2 j o (by simpa using hj)
variable {n : Nat} {r : Option Nat}
def wpAnyR (r : Option Nat) (n : Nat) (P : Program) (md : Region.Mode) (ops : Array Oper) (Q : Exit → Act → World → Prop) (R : World → World → Prop) (ex : Nat → Bool) : Nat → Array Bool → Act → World → Prop
  | 0, listed, a, w => Region.ready md ops listed = [] ∧ Q .normal a w
  | fuel + 1, listed, a, w =>
    (Region.ready md ops listed = [] → Q .normal a w) ∧
    ∀ i ∈ Region.ready md ops listed, wpOpIn (Fr r) n P ops Q i (fun a' w' => (ex i = false → R w w') ∧ wpAnyR r n P md ops Q R ex fuel (listed.setIfInBounds i true) a' w') a w
theorem wpAny_of_R : ∀ (fuel : Nat) (listed : Array Bool) (a : Act) (w : World), wpAnyR r n P md ops Q R ex fuel listed a w → wpAnyIn (Fr r) n P md ops Q fuel listed a w
  | 0, _, _, _, h => h
  | fuel + 1, _, _, _, h => ⟨h.1, fun i hi => wpOpIn_mono (fun a' w' h' => wpAny_of_R fuel _ a' w' h'.2) (h.2 i hi)⟩
theorem YieldsIf.mono_ {S S' : World → Prop} {o : Oper} {v : Value} {a : Act} (h : ∀ w, S' w → S w) (hy : YieldsIf P ops S o v a) : YieldsIf P ops S' o v a :=
  hy.imp (fun ⟨h1, h2⟩ => ⟨h1, fun w hw => h2 w (h w hw)⟩) id
theorem YieldsIf.wpOpIn {S : World → Prop} {i : Nat} {o : Oper} {v : Value} {a : Act} (hi : ops[i]? = some o) (hy : YieldsIf P ops S o v a)
    {K : Act → World → Prop} {w : World} (hS : S w) (h : K (a.put o.dst v) w) : wpOpIn (Fr r) n P ops Q i K a w := by
  unfold Go.wpOpIn
  simp only [hi]
  rcases hy with ⟨hw, hv⟩ | ⟨hw, rfl⟩
  · simp only [hw, if_true]
    refine ⟨fun _ _ => trivial, ?_⟩
    rw [semAt_run (hv w hS) (by simp), Oper.uponIn_value]
    exact h
  · simp only [hw, Bool.false_eq_true, if_false]
    exact ⟨fun _ _ => trivial, h⟩
theorem wpOpIn_putIf {S : World → Prop} {j : Nat} {oi oj : Oper} {v : Value} (hnd : ∀ c, oj.op ≠ .defer c) (hj : ops[j]? = some oj) (hap : oi.apart ops oj = true)
    (hsi : ∀ cs b, oi.op ≠ .select cs b) (hsj : ∀ cs b, oj.op ≠ .select cs b)
    (hQ : ∀ c a w, Q (.panic c) (a.put oi.dst v) w → Q (.panic c) a w) {K : Act → World → Prop} {a : Act} {w : World}
    (hy : YieldsIf P ops S oi v a) (h : wpOpIn (Fr r) n P ops Q j K (a.put oi.dst v) w) :
    wpOpIn (Fr r) n P ops Q j (fun a' w' => YieldsIf P ops S oi v a' ∧ K (a'.put oi.dst v) w') a w := by
  obtain ⟨h1, h2, h3⟩ := Oper.apart_spec hap
  have keep : ∀ (a : Act), YieldsIf P ops S oi v a → ∀ u, YieldsIf P ops S oi v (a.put oj.dst u) := fun a hy u =>
    hy.of_same (execOp_put oi hsi a oj.dst u h3) (wanted_put oi a oj.dst u h3)
  have keepD : ∀ d, YieldsIf P ops S oi v { a with defers := d :: a.defers } := fun d => hy.of_same rfl rfl
  unfold Go.wpOpIn at *
  simp only [hj] at *
  rw [wanted_put oj a oi.dst v h1] at h
  split
  · rename_i hw
    simp only [hw, if_true] at h
    unfold Oper.wpIn at *
    refine ⟨fun _ _ => trivial, ?_⟩
    have h := h.2
    rw [Oper.semAt_eq _ _ _ hnd, execOp_put oj hsj a oi.dst v h1] at h
    rw [Oper.semAt_eq _ _ _ hnd]
    generalize (execOp a.eval oj).run P w = res at *
    cases res with
    | ok x w' =>
      cases x <;> simp only [Oper.uponIn] at h ⊢
      case value u => exact ⟨keep a hy u, by rw [← Act.put_comm a v u h2]; exact h⟩
      case skip => exact ⟨keep a hy _, by rw [← Act.put_comm a v undef h2]; exact h⟩
      case defer d =>
        refine ⟨keep _ (keepD d) _, ?_⟩
        rw [← Act.put_comm _ v undef h2, ← Act.put_defers]
        exact h
      case enter f args =>
        refine ⟨h.1, CallsIn.mono h.2 fun e w'' he => ?_⟩
        cases e with
        | returned u => exact ⟨keep a hy u, by rw [← Act.put_comm a v u h2]; exact he⟩
        | panicked c => exact hQ _ _ _ he
        | outgrown => exact he
      case row row args => exact ⟨h.1, RowsIn.mono h.2 fun u w'' he => ⟨keep a hy u, by rw [← Act.put_comm a v u h2]; exact he⟩⟩
      case round l f tmps assign body =>
        refine ⟨h.1, RoundIn.mono h.2 fun e w'' he => ?_⟩
        cases e with
        | returned u => exact ⟨keep a hy u, by rw [← Act.put_comm a v u h2]; exact he⟩
        | panicked c => exact hQ _ _ _ he
        | outgrown => exact he
    | halt x w' =>
      cases x <;> simp only [Oper.uponIn] at h ⊢
      case panic u => exact hQ _ _ _ h
  · rename_i hw
    simp only [hw] at h
    exact ⟨fun _ _ => trivial, keep a hy _, by rw [← Act.put_comm a v undef h2]; exact h.2⟩
theorem wpAnyR_first (hrefl : ∀ w, R w w) (htrans : ∀ a b c, R a b → R b c → R a c) {i : Nat} {oi : Oper} {v : Value} (hi : ops[i]? = some oi) (hnd : ∀ (j : Nat) (o : Oper), ops[j]? = some o → ∀ c, o.op ≠ .defer c)
    (hsel : ∀ (j : Nat) (o : Oper) cs b, ops[j]? = some o → o.op ≠ .select cs b) (hQ : ∀ c a w, Q (.panic c) (a.put oi.dst v) w → Q (.panic c) a w) (rs : List Nat) :
    ∀ (fuel : Nat) (listed : Array Bool) (a : Act) (w : World),
      (∀ j oj, ops[j]? = some oj → j ≠ i → listed.getD j true = false → (∀ e ∈ oj.after, Region.binds md e = true → e.on ≠ i) → oi.apart ops oj = true) →
      Closed md ops listed → (∀ j, ex j = true → listed.getD j true = true ∨ j ∈ deps md ops rs [i]) →
      i ∈ Region.ready md ops listed → YieldsIf P ops (R w) oi v a →
      wpAnyR r n P md ops Q R ex fuel (listed.setIfInBounds i true) (a.put oi.dst v) w → wpAnyR r n P md ops Q R ex (fuel + 1) listed a w := by
  intro fuel
  induction fuel with
  | zero =>
    intro listed a w _ _ _ hr hy H
    refine ⟨fun h => (by rw [h] at hr; cases hr), fun j hj => ?_⟩
    by_cases hji : j = i
    · subst hji; exact YieldsIf.wpOpIn hi hy (hrefl w) ⟨fun _ => hrefl w, H⟩
    · have := ready_mono hj hji
      rw [H.1] at this
      cases this
  | succ fuel ih =>
    intro listed a w hfree hcl hex hr hy H
    refine ⟨fun h => (by rw [h] at hr; cases hr), fun j hj => ?_⟩
    by_cases hji : j = i
    · subst hji; exact YieldsIf.wpOpIn hi hy (hrefl w) ⟨fun _ => hrefl w, H⟩
    · have h1 := H.2 j (ready_mono hj hji)
      obtain ⟨hjun, oj, hoj, hall⟩ := mem_ready.1 hj
      have hun := (mem_ready.1 hr).1
      have hjx : ex j = false := by
        cases hx : ex j with
        | false => rfl
        | true =>
          rcases hex j hx with h | h
          · rw [hjun] at h; cases h
          · have := (deps_spec hcl i rs [i] (fun x hx => by simp at hx; subst hx; exact ⟨hun, .inl rfl⟩) j h).2
            rcases this with h | h
            · exact (hji h).elim
            · exact (h hj).elim
      have hnot : ∀ e ∈ oj.after, Region.binds md e = true → e.on ≠ i := fun e he hb heq => by
        have h1 := hall e he hb
        have h0 := (mem_ready.1 hr).1
        rw [heq] at h1
        rcases Nat.lt_or_ge i listed.size with h' | h'
        · simp [h'] at h0 h1; rw [h0] at h1; cases h1
        · simp [Array.getElem?_eq_none h'] at h1
      have h2 := wpOpIn_putIf (hnd j oj hoj) hoj (hfree j oj hoj hji hjun hnot) (fun cs b => hsel i oi cs b hi) (fun cs b => hsel j oj cs b hoj) hQ hy h1
      have hfree' : ∀ k ok, ops[k]? = some ok → k ≠ i → (listed.setIfInBounds j true).getD k true = false →
          (∀ e ∈ ok.after, Region.binds md e = true → e.on ≠ i) → oi.apart ops ok = true := fun k ok hk hki hun hno => by
        refine hfree k ok hk hki ?_ hno
        by_cases hjk : j = k
        · subst hjk; exact hjun
        · rw [getD_set_ne true hjk] at hun; exact hun
      have hex' : ∀ k, ex k = true → (listed.setIfInBounds j true).getD k true = true ∨ k ∈ deps md ops rs [i] := fun k hk => by
        rcases hex k hk with h | h
        · left
          by_cases hjk : j = k
          · subst hjk; rw [hjun] at h; cases h
          · rw [getD_set_ne true hjk]; exact h
        · exact .inr h
      refine wpOpIn_mono (fun a' w' h3 => ⟨h3.2.1, ih (listed.setIfInBounds j true) a' w' hfree' (hcl.set hj) hex' (ready_mono hr (Ne.symm hji))
        (YieldsIf.mono_ (fun x hx => htrans _ _ _ (h3.2.1 hjx) hx) h3.1) ?_⟩) h2
      rw [Array.setIfInBounds_comm _ _ hji]
      exact h3.2.2
end

/-- does it write, make or call? -/
def effB : Op → Bool
  | .move _ | .assign _ | .pick _ _ _ | .binOp _ _ _ _ _ | .unOp _ _ _ | .extract _ _ | .field _ _ _ | .fieldAddr _ _ _ | .indexAddr _ _ _ | .index _ _ _
  | .slice _ _ _ _ _ | .nilCheck _ | .build _ _ | .makeFunc _ _ _ | .load _ _ | .convert _ _ _ => false
  | .call c => match c.callee with
    | .builtin .len | .builtin .cap | .builtin .min | .builtin .max => false
    | _ => true
  | _ => true
/-- orders: a place from 1000 on is that number less 1000, and all that stands ahead of it binds it; where effects may come either way round: a way for each -/
inductive Tr where
  | nil | op (i : Nat) (r : Tr) | or (a b : Tr)
def on : List Nat → Tr → Tr
  | [], t => t
  | i :: l, t => .op i (on l t)
def Tr.heads : Tr → List Nat
  | .nil => []
  | .op i _ => [i]
  | .or a b => a.heads ++ b.heads
def Tr.flat : Tr → List Nat
  | .nil => []
  | .op i r => i :: r.flat
  | .or a b => a.flat ++ b.flat
def Tr.len : Tr → Nat
  | .nil => 0
  | .op _ r => r.len + 1
  | .or a _ => a.len
def plc (i : Nat) : Nat := match Nat.ble 1000 i with | true => i - 1000 | false => i
def exB (l : List Nat) (j : Nat) : Bool := l.contains (j + 1000)
/-- orders that may stand for all: what only reads is taken first; an effect comes up alone, or each of those that come up has its way -/
def ordB (md : Region.Mode) (ops : Array Oper) : Bool → Tr → Array Bool → Bool
  | alt, .nil, listed => !alt && (Region.ready md ops listed).isEmpty
  | alt, .op i r, listed =>
    (match ops[plc i]? with
     | some o => match alt with
       | true => effB o.op && (Nat.blt i 1000 && (Region.ready md ops listed).contains i)
       | false => if effB o.op then Region.ready md ops listed == [plc i]
         else Nat.blt i 1000 && (Region.ready md ops listed).contains i && Region.free md ops listed i && r.flat.all (fun k => Nat.blt k 1000 || (deps md ops (r.flat.map plc) [i]).contains (k - 1000))
     | none => false) && ordB md ops false r (listed.setIfInBounds (plc i) true)
  | alt, .or a b, listed => (alt || (Region.ready md ops listed).all (fun i => (a.heads ++ b.heads).contains i)) && ((a.flat ++ b.flat).all (fun k => Nat.blt k 1000) && Nat.beq a.len b.len) && ordB md ops true a listed && ordB md ops true b listed
def ordOk (ops : Array Oper) (t : Tr) : Bool := Region.noSelect ops && noDefer ops.toList && t.len == ops.size && ordB .any ops false t (Array.replicate ops.size false)

def loadR (τ : Tab) (t : Nat) (x : Value) (C : World → Prop) (K : Value → Prop) : Prop :=
  match x with
  | .pointer a =>
    ∃ p, a = some p ∧
      match aggB (lk τ.und t), lk τ.siz t, lk τ.sh t with
      | some false, _, some s => s.ex fun v => (∀ w', C w' → w'.cell? p = some v) ∧ K v
      | some true, some (n, _, _), some (.agg l) => Sh.exL l fun vs => len' vs = n ∧ (∀ w', C w' → cellsAt w' p 0 vs) ∧ K (.agg vs.toArray)
      | _, _, _ => False
  | _ => False
def convR (P : Program) (τ : Tab) (s d : Nat) (x : Value) (C : World → Prop) (K : Value → Prop) : Prop :=
  match x with
  | .int k n => convD τ s d (.int k n) K
  | x =>
    match lk τ.sh d with
    | some sh => sh.ex fun v => (∀ w', C w' → Runs P (convert s d x) w' v w') ∧ K v
    | none => False
def stillR (P : Program) (τ : Tab) (o : Op) (e : Env) (C : World → Prop) (K : Value → Prop) : Prop :=
  match o with
  | .load t x => evK e x fun a => loadR τ t a C K
  | .convert s d x => evK e x fun a => convR P τ s d a C K
  | o => pureC τ o e K
theorem stillR_sound {P : Program} {τ : Tab} (hτ : τ.Ok P) (o : Oper) (e : Env) (C : World → Prop) (K : Value → Prop) (h : stillR P τ o.op e C K) :
    ∃ v, K v ∧ ∀ w, C w → (execOp (ev e) o).run P w = .ok (.value v) w := by
  unfold stillR at h
  split at h
  · rename_i t x ho
    rw [evK_eq] at h
    unfold loadR at h
    split at h
    · rename_i a hx
      obtain ⟨p, rfl, h⟩ := h
      split at h
      · rename_i ha _
        obtain ⟨v, hc, hk⟩ := Sh.ex_spec _ _ h
        exact ⟨v, hk, fun w hw => exec_load o e t x ho p hx w v (run_loadVar hτ t w p v (.inl ⟨_, ha, rfl, hc w hw⟩))⟩
      · rename_i n b z l ha hs _
        obtain ⟨vs, hl, hc, hk⟩ := Sh.exL_spec _ _ h
        rw [len'_eq] at hl
        exact ⟨_, hk, fun w hw => exec_load o e t x ho p hx w _ (run_loadVar hτ t w p _ (.inr ⟨n, b, z, vs, ha, hs, hl, hc w hw, rfl⟩))⟩
      · exact h.elim
    · exact h.elim
  · rename_i s d x ho
    rw [evK_eq] at h
    unfold convR at h
    split at h
    · rename_i k n hx
      obtain ⟨v, hk, hr⟩ := pureD_sound hτ o e K (by rw [ho]; simp only [pureD, hx]; exact h)
      exact ⟨v, hk, fun w _ => hr w⟩
    · split at h
      · obtain ⟨v, hr, hk⟩ := Sh.ex_spec _ _ h
        refine ⟨v, hk, fun w hw => ?_⟩
        have := hr w hw
        unfold Runs at this
        simp [execOp, ho, this]
      · exact h.elim
  · rw [pureC_eq] at h
    obtain ⟨v, hk, hr⟩ := pureD_sound hτ o e K h
    exact ⟨v, hk, fun w _ => hr w⟩
end Go.Proofs.YtihnjjmbcbfheaaDoor.V
