/-
  'den' unfolded step by step, each value reckoned before it is handed on: equations for the walks.
-/
import Derived.Test.YtihnjjmbcbfheaaDoorDenC
namespace Go.Proofs.YtihnjjmbcbfheaaDoor.V
open Go Go.RowKit
set_option linter.unusedVariables false
set_option linter.unusedSimpArgs false

def rdK : Env → Nat → (Value → Prop) → Prop
  | [], _, K => K undef
  | v :: _, 0, K => K v
  | _ :: l, n + 1, K => rdK l n K
def wrK : Env → Nat → Value → (Env → Prop) → Prop
  | [], _, _, K => K []
  | _ :: l, 0, v, K => K (v :: l)
  | x :: l, n + 1, v, K => wrK l n v fun l' => K (x :: l')
theorem rdK_eq : ∀ (e : Env) (t : Nat) (K : Value → Prop), rdK e t K = K (rd e t)
  | [], _, _ => rfl
  | _ :: _, 0, _ => rfl
  | _ :: l, n + 1, K => rdK_eq l n K
theorem wrK_eq : ∀ (e : Env) (t : Nat) (v : Value) (K : Env → Prop), wrK e t v K = K (wr e t v)
  | [], _, _, _ => rfl
  | _ :: _, 0, _, _ => rfl
  | x :: l, n + 1, v, K => wrK_eq l n v fun l' => K (x :: l')
theorem rdK_0 (x : Value) (l : Env) (K : Value → Prop) : rdK (x :: l) 0 K = K x := rfl
theorem rdK_1 (x : Value) (l : Env) (n : Nat) (K : Value → Prop) : rdK (x :: l) (n + 1) K = rdK l n K := rfl
theorem rdK_8 (a b c d e f g h : Value) (l : Env) (n : Nat) (K : Value → Prop) : rdK (a :: b :: c :: d :: e :: f :: g :: h :: l) (n + 8) K = rdK l n K := rfl
theorem wrK_0 (x : Value) (l : Env) (v : Value) (K : Env → Prop) : wrK (x :: l) 0 v K = K (v :: l) := rfl
theorem wrK_1 (x : Value) (l : Env) (n : Nat) (v : Value) (K : Env → Prop) : wrK (x :: l) (n + 1) v K = wrK l n v fun l' => K (x :: l') := rfl
theorem wrK_8 (a b c d e f g h : Value) (l : Env) (n : Nat) (v : Value) (K : Env → Prop) :
    wrK (a :: b :: c :: d :: e :: f :: g :: h :: l) (n + 8) v K = wrK l n v fun l' => K (a :: b :: c :: d :: e :: f :: g :: h :: l') := rfl
def evK (e : Env) (x : Operand) (K : Value → Prop) : Prop :=
  match x with
  | .tmp t => rdK e t K
  | .const v => K v
  | .global g => K (.pointer (some ⟨g, 0, none⟩))
  | .func f => K (.func (.func f) #[] #[])
theorem evK_eq (e : Env) (x : Operand) (K : Value → Prop) : evK e x K = K (ev e x) := by
  cases x with
  | tmp t => exact rdK_eq e t K
  | _ => rfl
def putK (e : Env) (d : Option Nat) (v : Value) (K : Env → Prop) : Prop :=
  match d with
  | some d => wrK e d v K
  | none => K e
theorem putK_eq (e : Env) (d : Option Nat) (v : Value) (K : Env → Prop) : putK e d v K = K (put e d v) := by
  cases d with
  | none => rfl
  | some d => exact wrK_eq e d v K
def evsK (e : Env) : List Operand → (List Value → Prop) → Prop
  | [], K => K []
  | x :: l, K => evK e x fun v => evsK e l fun vs => K (v :: vs)
theorem evsK_eq (e : Env) : ∀ (l : List Operand) (K : List Value → Prop), evsK e l K = K (l.map (ev e))
  | [], _ => rfl
  | x :: l, K => by simp only [evsK, evK_eq, evsK_eq e l, List.map_cons]
def evpK (e : Env) : List (Nat × Operand) → (List (Nat × Value) → Prop) → Prop
  | [], K => K []
  | (i, x) :: l, K => evK e x fun v => evpK e l fun vs => K ((i, v) :: vs)
theorem evpK_eq (e : Env) : ∀ (l : List (Nat × Operand)) (K : List (Nat × Value) → Prop), evpK e l K = K (l.map fun p => (p.1, ev e p.2))
  | [], _ => rfl
  | (i, x) :: l, K => by simp only [evpK, evK_eq, evpK_eq e l, List.map_cons]
def evoK (e : Env) (x : Option Operand) (K : Option Value → Prop) : Prop :=
  match x with
  | none => K none
  | some x => evK e x fun v => K (some v)
theorem evoK_eq (e : Env) (x : Option Operand) (K : Option Value → Prop) : evoK e x K = K (x.map (ev e)) := by
  cases x with
  | none => rfl
  | some x => exact evK_eq e x _

def pickV (c a b : Value) (K : Value → Prop) : Prop :=
  match c with
  | .bool c => pickD c a b K
  | _ => False
/-- the operations that leave the world alone -/
def pureC (τ : Tab) (o : Op) (e : Env) (K : Value → Prop) : Prop :=
  match o with
  | .move x => evK e x K
  | .assign x => evK e x K
  | .pick c a b => evK e c fun c => evK e a fun a => evK e b fun b => pickV c a b K
  | .binOp op t x y _ => evK e x fun a => evK e y fun b => binX τ op t y a b K
  | .unOp op _ x => evK e x fun a => unD op a K
  | .convert s d x => evK e x fun a => convD τ s d a K
  | .extract x i => evK e x fun a => extractD a i K
  | .field t x i => evK e x fun a => fieldD τ t a i K
  | .fieldAddr t x i => evK e x fun a => fieldAddrD τ t a i K
  | .indexAddr t x i => evK e x fun a => evK e i fun b => indexAddrD τ t a b K
  | .index t x i => evK e x fun a => evK e i fun b => indexD τ t a b K
  | .slice t x lo hi mx => evK e x fun a => evoK e lo fun lo => evoK e hi fun hi => evoK e mx fun mx => sliceD τ t a lo hi mx K
  | .nilCheck x => evK e x fun a => nilCheckD a K
  | .build t parts => evpK e parts.toList fun l => buildD τ t l K
  | .makeFunc fn first cap => evsK e first.toList fun a => evsK e cap.toList fun b => K (.func fn a.toArray b.toArray)
  | .makeInterface t x => evK e x fun a => mkIfD τ t a K
  | .call c =>
    match c.callee, c.args.toList, c.argTypes.toList with
    | .builtin .len, [x], [t] => evK e x fun a => lenD τ t a K
    | .builtin .cap, [x], [t] => evK e x fun a => capD τ t a K
    | .builtin .min, [x, y], _ => evK e x fun a => evK e y fun b => minD a b K
    | .builtin .max, [x, y], _ => evK e x fun a => evK e y fun b => maxD a b K
    | _, _, _ => False
  | _ => False
theorem pureC_eq (τ : Tab) (o : Op) (e : Env) (K : Value → Prop) : pureC τ o e K = pureD τ o e K := by
  cases o <;> simp only [pureC, pureD, evK_eq, evoK_eq, evpK_eq, evsK_eq]
  case pick c a b => unfold pickV; cases ev e c <;> rfl
  case makeFunc fn a b =>
    have h1 : (List.map (ev e) a.toList).toArray = Array.map (ev e) a := by apply Array.ext'; simp
    have h2 : (List.map (ev e) b.toList).toArray = Array.map (ev e) b := by apply Array.ext'; simp
    rw [h1, h2]
  case call c => split <;> (split <;> first | rfl | simp_all)

structure CallW (P : Program) (f : Nat) (args : Array Value) (w : World) (R : Ending → World → Prop) : Prop where
  h : Calls P f args w R
/-- a call of a loop's body, by the function that is ranged over -/
structure YieldW (P : Program) (l : Nat) (args : Array Value) (w : World) (R : Bool → World → Prop) : Prop where
  h : YieldAt Fence.wide 0 P l args w fun e w' => ∃ b, e = .returned (.bool b) ∧ R b w'
def callC (P : Program) (τ : Tab) (ty : Nat) (f : Value) (args : List Value) (w : World) (K : KW) : Prop :=
  match f, lk τ.sh ty with
  | .func (.func f) fi ca, some s => isIn τ.fns f = true ∧ CallW P f (fi.toList ++ (args ++ ca.toList)).toArray w fun e w => s.ex fun v => e = .returned v ∧ K v w
  | .func (.func f) fi ca, none => isIn τ.fns f = true ∧ CallW P f (fi.toList ++ (args ++ ca.toList)).toArray w fun e w => ∃ v, e = .returned v ∧ K v w
  | .func (.yield l) fi ca, _ => (fi.toList = [] ∧ ca.toList = []) ∧ YieldW P l args.toArray w fun b w => K (.bool b) w
  | _, _ => False
theorem callC_sem {P : Program} {τ : Tab} (hτ : τ.Ok P) {o : Oper} {c : Call} {g : Operand} (ho : o.op = .call c) (hc : c.callee = .value g) {e : Env} {w : World} {K : KW}
    (h : callC P τ o.type (ev e g) (c.args.toList.map (ev e)) w K) : OpSem P o e w K := by
  unfold callC at h
  split at h
  · rename_i f fi ca s hf hs
    refine ⟨.enter _ _, w, exec_call hτ o e c ho g hc f fi ca hf h.1 w, h.2.h.mono fun en w' hr => ?_⟩
    exact Sh.ex_spec _ _ hr
  · rename_i f fi ca hf hs
    exact ⟨.enter _ _, w, exec_call hτ o e c ho g hc f fi ca hf h.1 w, h.2.h⟩
  · rename_i l fi ca hf
    obtain ⟨⟨h1, h2⟩, ⟨fn, tmps, assign, body, hy, hR⟩⟩ := h
    obtain rfl : fi = #[] := by cases fi; simp_all
    obtain rfl : ca = #[] := by cases ca; simp_all
    refine ⟨.round l fn tmps assign body, w, ?_, roundIn_w (r := none) (hR.mono fun en w' hv => ?_)⟩
    · have ha : (c.args.toList.map (ev e)).toArray = c.args.map (ev e) := by apply Array.ext'; simp
      rw [ha] at hy
      simp [execOp, ho, resolve, hc, Deferred.ofValue, hf, invoke, hy]
    · obtain ⟨b, rfl, hk⟩ := hv
      exact ⟨_, rfl, hk⟩
  · exact h.elim
def callQC (P : Program) (τ : Tab) (ty : Nat) (f : Value) (args : List Value) (w : World) (K : Value → Prop) : Prop :=
  match f, lk τ.sh ty with
  | .func (.func f) fi ca, some s => isIn τ.fns f = true ∧ s.ex fun v => (∀ w', Qt w w' → CallW P f (fi.toList ++ (args ++ ca.toList)).toArray w' fun e w'' => e = .returned v ∧ Qt w' w'') ∧ K v
  | .func (.func f) fi ca, none => isIn τ.fns f = true ∧ ∃ v, (∀ w', Qt w w' → CallW P f (fi.toList ++ (args ++ ca.toList)).toArray w' fun e w'' => e = .returned v ∧ Qt w' w'') ∧ K v
  | _, _ => False
end Go.Proofs.YtihnjjmbcbfheaaDoor.V
