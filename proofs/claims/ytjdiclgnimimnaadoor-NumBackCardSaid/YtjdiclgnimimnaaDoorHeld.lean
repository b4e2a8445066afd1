/-
  Regions that draw their order and hold calls that write or make memory: one order stands for all, if what is read stays as it is over what the calls may turn.
-/
import Derived.Test.YtjdiclgnimimnaaDoorCps
import Derived.OrdersHeld
namespace Go.Proofs.YtjdiclgnimimnaaDoor.V
open Go Go.RowKit

/-- what was there is as it was, but for the blocks of S -/
structure Upd (S : Nat → Prop) (w w' : World) : Prop where
  os : w'.os = w.os
  tape : w'.tape = w.tape
  output : w'.output = w.output
  size : w.heap.size ≤ w'.heap.size
  block : ∀ k, k < w.heap.size → ¬ S k → w'.heap[k]? = w.heap[k]?
abbrev Ext (w w' : World) : Prop := Upd (fun _ => False) w w'

section
variable {w w' w1 w2 a b c : World} {S T R : Nat → Prop}
theorem Upd.refl (S : Nat → Prop) (w : World) : Upd S w w := ⟨rfl, rfl, rfl, Nat.le_refl _, fun _ _ _ => rfl⟩
theorem Upd.trans (h : Upd S a b) (k : Upd T b c) (hR : ∀ i, i < a.heap.size → ¬ R i → ¬ S i ∧ ¬ T i) : Upd R a c :=
  ⟨k.os.trans h.os, k.tape.trans h.tape, k.output.trans h.output, Nat.le_trans h.size k.size,
    fun i hi hr => (k.block i (Nat.lt_of_lt_of_le hi h.size) (hR i hi hr).2).trans (h.block i hi (hR i hi hr).1)⟩
theorem Upd.mono (h : Upd S a b) (hR : ∀ i, i < a.heap.size → ¬ R i → ¬ S i) : Upd R a b := ⟨h.os, h.tape, h.output, h.size, fun i hi hr => h.block i hi (hR i hi hr)⟩
theorem Upd.ext (h : Upd S a b) (k : Ext b c) : Upd S a c := h.trans k fun _ _ h => ⟨h, not_false⟩
theorem Ext.upd (h : Ext a b) (k : Upd S b c) : Upd S a c := h.trans k fun _ _ h => ⟨not_false, h⟩
theorem Ext.refl (w : World) : Ext w w := Upd.refl _ w
theorem Ext.trans (h : Ext a b) (k : Ext b c) : Ext a c := Upd.ext h k
/-- writes into what is new are no change -/
theorem Ext.fresh (h : Ext a b) (k : Upd S b c) (hS : ∀ i, S i → a.heap.size ≤ i) : Ext a c :=
  Upd.trans h k fun i hi _ => ⟨not_false, fun hs => by have := hS i hs; omega⟩
theorem Upd.fresh (h : Upd S a b) (k : Upd T b c) (hT : ∀ i, T i → a.heap.size ≤ i ∨ S i) : Upd S a c :=
  Upd.trans h k fun i hi hs => ⟨hs, fun ht => by rcases hT i ht with h | h; omega; exact hs h⟩
theorem Upd.same (h : Upd S a b) (k : Upd S b c) : Upd S a c := h.trans k fun _ _ h => ⟨h, h⟩
theorem Qt.ext (h : Qt w w') : Ext w w' := by obtain ⟨n, rfl⟩ := h; exact ⟨rfl, rfl, rfl, Nat.le_refl _, fun _ _ _ => rfl⟩
theorem Qt.size (h : Qt w w') : w'.heap.size = w.heap.size := by rw [h.heap]
theorem NewW.ext {o : Obj} (h : NewW w o w') : Ext w w' := by
  subst h
  exact ⟨rfl, rfl, rfl, by simp, fun k hk _ => Below.heap_alloc w o k hk⟩
theorem NewW.size {o : Obj} (h : NewW w o w') : w'.heap.size = w.heap.size + 1 := by subst h; simp
theorem NewW.new {o : Obj} (h : NewW w o w') : w'.heap[w.heap.size]? = some o := by subst h; exact heap_alloc_new w o
theorem Upd.of_grown {row : Option Nat} (h : w.grownBy w' row) : Upd (fun k => row = some k) w w' :=
  ⟨h.os, h.tape, h.output, h.size, fun k hk hs => h.block k hk fun e => hs e.symm⟩
theorem Upd.below (h : Ext w w') : Below w.heap.size w w' := ⟨h.os, h.tape, h.output, h.size, fun k hk => h.block k hk not_false⟩
theorem Upd.cell (h : Upd S a b) {p : Addr} {v : Value} (hc : a.cell? p = some v) (hS : ¬ S p.block) : b.cell? p = some v := by
  have hlt : p.block < a.heap.size := by
    rcases Nat.lt_or_ge p.block a.heap.size with h | h
    · exact h
    · unfold World.cell? at hc
      rw [Array.getElem?_eq_none h] at hc
      cases hc
  rw [World.cell?_of_block (w := a) (h.block p.block hlt hS)]
  exact hc
end


section
variable {P : Program} {ops : Array Oper} {md : Region.Mode} {Q : Exit → Act → World → Prop} {R : World → World → Prop}
def wpAnyR (P : Program) (md : Region.Mode) (ops : Array Oper) (Q : Exit → Act → World → Prop) (R : World → World → Prop) : Nat → Array Bool → Act → World → Prop
  | 0, listed, a, w => Region.ready md ops listed = [] ∧ Q .normal a w
  | fuel + 1, listed, a, w =>
    (Region.ready md ops listed = [] → Q .normal a w) ∧
    ∀ i ∈ Region.ready md ops listed, wpOp P ops Q i (fun a' w' => R w w' ∧ wpAnyR P md ops Q R fuel (listed.setIfInBounds i true) a' w') a w
theorem wpAny_of_R : ∀ (fuel : Nat) (listed : Array Bool) (a : Act) (w : World), wpAnyR P md ops Q R fuel listed a w → wpAny P md ops Q fuel listed a w
  | 0, _, _, _, h => h
  | fuel + 1, _, _, _, h => ⟨h.1, fun i hi => wpOp_mono (fun a' w' h' => wpAny_of_R fuel _ a' w' h'.2) (h.2 i hi)⟩
theorem YieldsIf.mono_ {S S' : World → Prop} {o : Oper} {v : Value} {a : Act} (h : ∀ w, S' w → S w) (hy : YieldsIf P ops S o v a) : YieldsIf P ops S' o v a :=
  hy.imp (fun ⟨h1, h2⟩ => ⟨h1, fun w hw => h2 w (h w hw)⟩) id
theorem wpAnyR_first (hrefl : ∀ w, R w w) (htrans : ∀ a b c, R a b → R b c → R a c) {i : Nat} {oi : Oper} {v : Value} (hi : ops[i]? = some oi)
    (hsel : ∀ (j : Nat) (o : Oper) cs b, ops[j]? = some o → o.op ≠ .select cs b) (hQ : ∀ c a w, Q (.panic c) (a.put oi.dst v) w → Q (.panic c) a w) :
    ∀ (fuel : Nat) (listed : Array Bool) (a : Act) (w : World),
      (∀ j oj, ops[j]? = some oj → j ≠ i → listed.getD j true = false → (∀ e ∈ oj.after, Region.binds md e = true → e.on ≠ i) → oi.apart ops oj = true) →
      i ∈ Region.ready md ops listed → YieldsIf P ops (R w) oi v a →
      wpAnyR P md ops Q R fuel (listed.setIfInBounds i true) (a.put oi.dst v) w → wpAnyR P md ops Q R (fuel + 1) listed a w := by
  intro fuel
  induction fuel with
  | zero =>
    intro listed a w _ hr hy H
    refine ⟨fun h => (by rw [h] at hr; cases hr), fun j hj => ?_⟩
    by_cases hji : j = i
    · subst hji; exact YieldsIf.wpOp hi hy (hrefl w) ⟨hrefl w, H⟩
    · have := ready_mono hj hji
      rw [H.1] at this
      cases this
  | succ fuel ih =>
    intro listed a w hfree hr hy H
    refine ⟨fun h => (by rw [h] at hr; cases hr), fun j hj => ?_⟩
    by_cases hji : j = i
    · subst hji; exact YieldsIf.wpOp hi hy (hrefl w) ⟨hrefl w, H⟩
    · have h1 := H.2 j (ready_mono hj hji)
      obtain ⟨hjun, oj, hoj, hall⟩ := mem_ready.1 hj
      have hnot : ∀ e ∈ oj.after, Region.binds md e = true → e.on ≠ i := fun e he hb heq => by
        have h1 := hall e he hb
        have h0 := (mem_ready.1 hr).1
        rw [heq] at h1
        rcases Nat.lt_or_ge i listed.size with h' | h'
        · simp [h'] at h0 h1; rw [h0] at h1; cases h1
        · simp [Array.getElem?_eq_none h'] at h1
      have h2 := wpOp_putIf hoj (hfree j oj hoj hji hjun hnot) (fun cs b => hsel i oi cs b hi) (fun cs b => hsel j oj cs b hoj) hQ hy h1
      have hfree' : ∀ k ok, ops[k]? = some ok → k ≠ i → (listed.setIfInBounds j true).getD k true = false →
          (∀ e ∈ ok.after, Region.binds md e = true → e.on ≠ i) → oi.apart ops ok = true := fun k ok hk hki hun hno => by
        refine hfree k ok hk hki ?_ hno
        by_cases hjk : j = k
        · subst hjk; exact hjun
        · rw [getD_set_ne true hjk] at hun; exact hun
      refine wpOp_mono (fun a' w' h3 => ⟨h3.2.1, ih (listed.setIfInBounds j true) a' w' hfree' (ready_mono hr (Ne.symm hji))
        (YieldsIf.mono_ (fun x hx => htrans _ _ _ h3.2.1 hx) h3.1) ?_⟩) h2
      rw [Array.setIfInBounds_comm _ _ hji]
      exact h3.2.2
end

/-- does it write, make or call? -/
def effB : Op → Bool
  | .move _ | .assign _ | .pick _ _ _ | .binOp _ _ _ _ _ | .unOp _ _ _ | .extract _ _ | .field _ _ _ | .fieldAddr _ _ _ | .indexAddr _ _ _ | .index _ _ _
  | .slice _ _ _ _ _ | .nilCheck _ | .build _ _ | .makeFunc _ _ _ | .load _ _ | .convert _ _ _ => false
  | .call c => match c.callee with
    | .builtin .len | .builtin .cap | .builtin .min | .builtin .max => false
    | _ => true
  | _ => true
/-- an order that may stand for all: what only reads is taken first; the rest comes up alone -/
def ordB (md : Region.Mode) (ops : Array Oper) : List Nat → Array Bool → Bool
  | [], listed => (Region.ready md ops listed).isEmpty
  | i :: r, listed =>
    (match ops[i]? with
     | some o => if effB o.op then Region.ready md ops listed == [i] else (Region.ready md ops listed).contains i && Region.free md ops listed i
     | none => false) && ordB md ops r (listed.setIfInBounds i true)
def ordOk (ops : Array Oper) (l : List Nat) : Bool := Region.noSelect ops && l.length == ops.size && ordB .any ops l (Array.replicate ops.size false)

def loadR (τ : Tab) (t : Nat) (x : Value) (C : World → Prop) (K : Value → Prop) : Prop :=
  match x with
  | .pointer a =>
    ∃ p, a = some p ∧
      match aggB (lk τ.und t), lk τ.siz t, lk τ.sh t with
      | some false, _, some s => s.ex fun v => (∀ w', C w' → w'.cell? p = some v) ∧ K v
      | some true, some (n, _, _), some (.agg l) => Sh.exL l fun vs => len' vs = n ∧ (∀ w', C w' → cellsAt w' p 0 vs) ∧ K (.agg vs.toArray)
      | _, _, _ => False
  | _ => False
def convR (P : Program) (τ : Tab) (s d : Nat) (x : Value) (C : World → Prop) (K : Value → Prop) : Prop :=
  match x with
  | .int k n => convD τ s d (.int k n) K
  | x =>
    match lk τ.sh d with
    | some sh => sh.ex fun v => (∀ w', C w' → Runs P (convert s d x) w' v w') ∧ K v
    | none => False
def stillR (P : Program) (τ : Tab) (o : Op) (e : Env) (C : World → Prop) (K : Value → Prop) : Prop :=
  match o with
  | .load t x => evK e x fun a => loadR τ t a C K
  | .convert s d x => evK e x fun a => convR P τ s d a C K
  | o => pureC τ o e K
theorem stillR_sound {P : Program} {τ : Tab} (hτ : τ.Ok P) (o : Oper) (e : Env) (C : World → Prop) (K : Value → Prop) (h : stillR P τ o.op e C K) :
    ∃ v, K v ∧ ∀ w, C w → (execOp (ev e) o).run P w = .ok (.value v) w := by
  unfold stillR at h
  split at h
  · rename_i t x ho
    rw [evK_eq] at h
    unfold loadR at h
    split at h
    · rename_i a hx
      obtain ⟨p, rfl, h⟩ := h
      split at h
      · rename_i ha _
        obtain ⟨v, hc, hk⟩ := Sh.ex_spec _ _ h
        exact ⟨v, hk, fun w hw => exec_load o e t x ho p hx w v (run_loadVar hτ t w p v (.inl ⟨_, ha, rfl, hc w hw⟩))⟩
      · rename_i n b z l ha hs _
        obtain ⟨vs, hl, hc, hk⟩ := Sh.exL_spec _ _ h
        rw [len'_eq] at hl
        exact ⟨_, hk, fun w hw => exec_load o e t x ho p hx w _ (run_loadVar hτ t w p _ (.inr ⟨n, b, z, vs, ha, hs, hl, hc w hw, rfl⟩))⟩
      · exact h.elim
    · exact h.elim
  · rename_i s d x ho
    rw [evK_eq] at h
    unfold convR at h
    split at h
    · rename_i k n hx
      obtain ⟨v, hk, hr⟩ := pureD_sound hτ o e K (by rw [ho]; simp only [pureD, hx]; exact h)
      exact ⟨v, hk, fun w _ => hr w⟩
    · split at h
      · obtain ⟨v, hr, hk⟩ := Sh.ex_spec _ _ h
        refine ⟨v, hk, fun w hw => ?_⟩
        have := hr w hw
        unfold Runs at this
        simp [execOp, ho, this]
      · exact h.elim
  · rw [pureC_eq] at h
    obtain ⟨v, hk, hr⟩ := pureD_sound hτ o e K h
    exact ⟨v, hk, fun w _ => hr w⟩
end Go.Proofs.YtjdiclgnimimnaaDoor.V
