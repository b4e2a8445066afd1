/-
  Ranges over functions: what has to be shown of a loop whose body is called by the function that it ranges over; and that it is enough.
-/
import Derived.Test.YtihnjjmbcbfheaaDoorDenK
namespace Go.Proofs.YtihnjjmbcbfheaaDoor.V
open Go Go.RowKit
set_option linter.unusedVariables false
set_option linter.unusedSimpArgs false

/-! ### the record of a loop, the block for deferred calls -/
abbrev Rec := LoopState → Option Code → Loop
def Rdy (rec : Rec) (l : Nat) (w : World) : Prop := w.heap[l]? = some (.loop (rec .ready none))
def Bsy (rec : Rec) (l : Nat) (w : World) : Prop := w.heap[l]? = some (.loop (rec .busy none))
def Lft (rec : Rec) (l : Nat) (c : Code) (w : World) : Prop := w.heap[l]? = some (.loop (rec .done (some c)))
def Dfr (D : Nat) (w : World) : Prop := w.heap[D]? = some (.deferred (some []))
def HasL (l : Nat) (w : World) : Prop := ∃ lp, w.heap[l]? = some (.loop lp)

abbrev EPostR := Exit → List Nat → Env → World → Prop
def thenR (N : List Nat → Env → World → Prop) (Q : EPostR) : EPostR
  | .normal, D, e, w => N D e w
  | .exit i, D, e, w => Q (.exit i) D e w
  | .goto l, D, e, w => Q (.goto l) D e w
  | .ret, D, e, w => Q .ret D e w
  | .panic c, D, e, w => Q (.panic c) D e w
  | .outgrown, D, e, w => Q .outgrown D e w
def inBlkR (id : Nat) (Q : EPostR) : EPostR
  | .exit id', D, e, w => if id' = id then Q .normal D e w else Q (.exit id') D e w
  | .normal, D, e, w => Q .normal D e w
  | .goto l, D, e, w => Q (.goto l) D e w
  | .ret, D, e, w => Q .ret D e w
  | .panic c, D, e, w => Q (.panic c) D e w
  | .outgrown, D, e, w => Q .outgrown D e w
def hasR : Code → Bool
  | .rangeFunc _ _ _ _ => true
  | .seq a b => hasR a || hasR b
  | .cond _ x y => hasR x || hasR y
  | .block _ c => hasR c
  | .loop c => hasR c
  | .scope c => hasR c
  | _ => false
def hasRet : Code → Bool
  | .ret => true
  | .seq a b => hasRet a || hasRet b
  | .cond _ x y => hasRet x || hasRet y
  | .block _ c => hasRet c
  | .loop c => hasRet c
  | .scope c => hasRet c
  | .rangeFunc _ _ _ c => hasRet c
  | _ => false
/-- the ways out of a piece of code, past the blocks -/
def freeEx : List Nat → Code → List Nat
  | bs, .exit i => match isIn bs i with
    | true => []
    | false => [i]
  | bs, .seq a b => freeEx bs a ++ freeEx bs b
  | bs, .cond _ x y => freeEx bs x ++ freeEx bs y
  | bs, .block i c => freeEx (i :: bs) c
  | bs, .loop c => freeEx bs c
  | bs, .scope c => freeEx bs c
  | bs, .rangeFunc _ _ _ c => freeEx bs c
  | _, _ => []
def exOr : List Nat → (Nat → Prop) → Prop
  | [], _ => False
  | i :: r, K => K i ∨ exOr r K
theorem exOr_spec : ∀ (l : List Nat) (K : Nat → Prop), exOr l K → ∃ i, K i
  | [], _, h => h.elim
  | i :: r, K, h => by
    rcases h with h | h
    · exact ⟨i, h⟩
    · exact exOr_spec r K h
mutual
/-- any value of a shape -/
def Sh.al : Sh → (Value → Prop) → Prop
  | .int k, K => ∀ n : Int, K (.int k n)
  | .bool, K => ∀ b : Bool, K (.bool b)
  | .str, K => ∀ b : ByteArray, K (.string b)
  | .ptr, K => ∀ a : Option Addr, K (.pointer a)
  | .slice, K => ∀ s : Sl, K (.slice s.a s.n s.c)
  | .map, K => ∀ r : Option Nat, K (.map r)
  | .raw, K => ∀ v : Value, K v
  | .agg l, K => Sh.alL l fun vs => K (.agg vs.toArray)
  | .tup l, K => Sh.alL l fun vs => K (.tuple vs.toArray)
  | .clo _ _, K => ∀ v : Value, K v
  | .fnv _ _, K => ∀ v : Value, K v
def Sh.alL : List Sh → (List Value → Prop) → Prop
  | [], K => K []
  | s :: l, K => Sh.al s fun v => Sh.alL l fun vs => K (v :: vs)
end
mutual
theorem Sh.al_of : ∀ (s : Sh) (K : Value → Prop), (∀ v, K v) → s.al K
  | .int _, _, h => fun _ => h _
  | .bool, _, h => fun _ => h _
  | .str, _, h => fun _ => h _
  | .ptr, _, h => fun _ => h _
  | .slice, _, h => fun _ => h _
  | .map, _, h => fun _ => h _
  | .raw, _, h => fun _ => h _
  | .agg l, _, h => Sh.alL_of l _ fun _ => h _
  | .tup l, _, h => Sh.alL_of l _ fun _ => h _
  | .clo _ _, _, h => fun _ => h _
  | .fnv _ _, _, h => fun _ => h _
theorem Sh.alL_of : ∀ (l : List Sh) (K : List Value → Prop), (∀ vs, K vs) → Sh.alL l K
  | [], _, h => h _
  | s :: l, _, h => Sh.al_of s _ fun _ => Sh.alL_of l _ fun _ => h _
end
def argsA : Car → (List Value → Prop) → Prop
  | [], K => K []
  | (_, s) :: r, K => s.al fun v => argsA r fun vs => K (v :: vs)
theorem argsA_of : ∀ (c : Car) (K : List Value → Prop), (∀ vs, vs.length = c.length → K vs) → argsA c K
  | [], _, h => h _ rfl
  | (_, s) :: r, _, h => Sh.al_of s _ fun _ => argsA_of r _ fun vs hv => h _ (by simp [hv])
def wrs : Env → List Nat → List Value → Env
  | e, p :: ps, v :: vs => wrs (wr e p v) ps vs
  | e, _, _ => e
def wrsK : Env → List Nat → List Value → (Env → Prop) → Prop
  | e, p :: ps, v :: vs, K => wrK e p v fun e => wrsK e ps vs K
  | e, _, _, K => K e
theorem wrsK_eq : ∀ (e : Env) (ps : List Nat) (vs : List Value) (K : Env → Prop), wrsK e ps vs K = K (wrs e ps vs)
  | e, [], vs, K => by simp [wrsK, wrs]
  | e, p :: ps, [], K => by simp [wrsK, wrs]
  | e, p :: ps, v :: vs, K => by simp only [wrsK, wrs, wrK_eq, wrsK_eq]
theorem wrs_zip : ∀ (ps : List Nat) (vs : List Value) (e : Env), (ps.zip vs).foldl (fun (t : Array Value) (x : Nat × Value) => t.setIfInBounds x.1 x.2) e.toArray = (wrs e ps vs).toArray
  | [], vs, e => by simp [wrs]
  | p :: ps, [], e => by simp [wrs]
  | p :: ps, v :: vs, e => by
    simp only [List.zip_cons_cons, List.foldl_cons, wrs]
    have : e.toArray.setIfInBounds p v = (wr e p v).toArray := by simp [wr_eq]
    rw [this]
    exact wrs_zip ps vs _
def beqN : List Nat → List Nat → Bool
  | [], [] => true
  | a :: l, b :: m => Nat.beq a b && beqN l m
  | _, _ => false
theorem beqN_spec : ∀ (l m : List Nat), beqN l m = true → l = m
  | [], [], _ => rfl
  | [], _ :: _, h => by simp [beqN] at h
  | _ :: _, [], h => by simp [beqN] at h
  | a :: l, b :: m, h => by
    simp only [beqN, Bool.and_eq_true] at h
    rw [Nat.eq_of_beq_eq_true h.1, beqN_spec l m h.2]
def fsts : Car → List Nat
  | [] => []
  | (a, _) :: l => a :: fsts l
theorem fsts_len : ∀ (c : Car), (fsts c).length = c.length
  | [] => rfl
  | (_, _) :: l => by simp [fsts, fsts_len l]

/-- at a round's end -/
def roundQ (rec : Rec) (l : Nat) (R : Bool → World → Prop) : EPostR
  | .normal, _, _, W2 => Bsy rec l W2 ∧ ∀ W3, Upd (fun k => k = l) W2 W3 → W3.heap.size = W2.heap.size → Rdy rec l W3 → R true W3
  | .ret, _, _, W2 => Bsy rec l W2 ∧ ∀ W3, Upd (fun k => k = l) W2 W3 → W3.heap.size = W2.heap.size → Lft rec l .ret W3 → R false W3
  | .exit i, _, _, W2 => Bsy rec l W2 ∧ ∀ W3, Upd (fun k => k = l) W2 W3 → W3.heap.size = W2.heap.size → Lft rec l (.exit i) W3 → R false W3
  | _, _, _, _ => False
/-- behind the loop's assignments: the round begins -/
def beginQ (rec : Rec) (l : Nat) (N : Env → World → Prop) : EPostR
  | .normal, _, e, W => Rdy rec l W ∧ ∀ W1, Upd (fun k => k = l) W W1 → W1.heap.size = W.heap.size → Bsy rec l W1 → N e W1
  | _, _, _, _ => False
/-- behind the function that was ranged over -/
def outR (rec : Rec) (l : Nat) (body : Code) (Q : EPostR) (Ds : List Nat) (e : Env) (w2 : World) : Prop :=
  (Rdy rec l w2 ∧ ∀ w3, Upd (fun k => k = l) w2 w3 → w3.heap.size = w2.heap.size → Q .normal Ds e w3) ∨
  (match hasRet body with
   | true => Lft rec l .ret w2 ∧ ∀ w3, Upd (fun k => k = l) w2 w3 → w3.heap.size = w2.heap.size → Q .ret Ds e w3
   | false => False) ∨
  exOr (freeEx [] body) fun i => Lft rec l (.exit i) w2 ∧ ∀ w3, Upd (fun k => k = l) w2 w3 → w3.heap.size = w2.heap.size → Q (.exit i) Ds e w3

def denR (P : Program) (τ : Tab) (ann cuts : Ann) (ords : Ords) : Option Nat → Code → EPostR → List Nat → Env → World → Prop
  | r, .seq a b, Q, Ds, e, w =>
    match hasR a || hasR b, hasR a, (frId b).bind (lk cuts) with
    | true, false, some vs => ∃ J : Cur vs, denC P τ ann cuts ords a (thenE (fun e w => headK vs e J w) fun x e w => Q x Ds e w) e w ∧
        ∀ junk : Nat → Value, asgK a [] fun l => havocK e junk l fun e' => allK vs e' J fun e w => denR P τ ann cuts ords r b Q Ds e w
    | true, _, _ => denR P τ ann cuts ords r a (thenR (denR P τ ann cuts ords r b Q) Q) Ds e w
    | false, _, _ => denC P τ ann cuts ords (.seq a b) (fun x e w => Q x Ds e w) e w
  | r, .cond c x y, Q, Ds, e, w =>
    match hasR x || hasR y with
    | true => evK e c fun v => condV v (denR P τ ann cuts ords r x Q Ds e w) (denR P τ ann cuts ords r y Q Ds e w)
    | false => denC P τ ann cuts ords (.cond c x y) (fun x e w => Q x Ds e w) e w
  | r, .block i c, Q, Ds, e, w =>
    match hasR c with
    | true => denR P τ ann cuts ords r c (inBlkR i Q) Ds e w
    | false => denC P τ ann cuts ords (.block i c) (fun x e w => Q x Ds e w) e w
  | none, .rangeFunc g ps assign body, Q, Ds, e, w =>
    evK e g fun gv => match gv, (frId body).bind fun i => lk ann (i + 100000) with
    | .func (.func gf) fi ca, some vs => (isIn τ.fns gf = true ∧ beqN (fsts vs) ps.toList = true) ∧ ∀ (rec : Rec) (D l : Nat) (w1 : World), Ext w w1 → (w.heap.size ≤ D ∧ w.heap.size ≤ l ∧ D ≠ l) → Dfr D w1 → Rdy rec l w1 →
        (argsA vs fun args => ∀ (W : World) (R : Bool → World → Prop), Rdy rec l W →
          (wrsK e (fsts vs) args fun e' => denR P τ ann cuts ords (some l) assign (beginQ rec l fun e1 W1 => denR P τ ann cuts ords (some l) body (roundQ rec l R) [] e1 W1) [] e' W) → YieldW P l args.toArray W R) →
        CallW P gf (fi.toList ++ (Value.func (.yield l) #[] #[] :: ca.toList)).toArray w1 fun en w2 => ∃ v, en = .returned v ∧ outR rec l body Q (D :: Ds) e w2
    | _, _ => False
  | some l0, .rangeFunc g ps assign body, Q, Ds, e, w =>
    evK e g fun gv => match gv, (frId body).bind fun i => lk ann (i + 100000) with
    | .func (.func gf) fi ca, some vs => (isIn τ.fns gf = true ∧ beqN (fsts vs) ps.toList = true ∧ HasL l0 w) ∧ ∀ (rec : Rec) (l : Nat) (w1 : World), Ext w w1 → w.heap.size ≤ l → Rdy rec l w1 →
        (argsA vs fun args => ∀ (W : World) (R : Bool → World → Prop), Rdy rec l W →
          (wrsK e (fsts vs) args fun e' => denR P τ ann cuts ords (some l) assign (beginQ rec l fun e1 W1 => denR P τ ann cuts ords (some l) body (roundQ rec l R) [] e1 W1) [] e' W) → YieldW P l args.toArray W R) →
        CallW P gf (fi.toList ++ (Value.func (.yield l) #[] #[] :: ca.toList)).toArray w1 fun en w2 => ∃ v, en = .returned v ∧ outR rec l body Q Ds e w2
    | _, _ => False
  | _, c, Q, Ds, e, w => denC P τ ann cuts ords c (fun x e w => Q x Ds e w) e w

def lexR (ords : Ords) : Bool → Code → Bool
  | p, .seq a b => match hasR a || hasR b with
    | true => lexR ords p a && lexR ords p b
    | false => lexOk p ords (.seq a b)
  | p, .cond c x y => match hasR x || hasR y with
    | true => lexR ords p x && lexR ords p y
    | false => lexOk p ords (.cond c x y)
  | p, .block i c => match hasR c with
    | true => lexR ords p c
    | false => lexOk p ords (.block i c)
  | _, .rangeFunc _ _ assign body => lexR ords false assign && lexR ords false body
  | p, c => lexOk p ords c

def mark (D : Nat) : Deferred := { target := .collected D, args := #[] }
def liftR (r : Option Nat) (l : List Nat) (e0 : Env) (D0 : List Nat) (Q : EPostR) : Exit → Act → World → Prop := fun x a w => ∃ e Ds, a = actd e (Ds.map mark) ∧ Same l e0 e ∧ (r.isSome = true → Ds = D0) ∧ Q x Ds e w
theorem liftR_mono {r : Option Nat} {l l' : List Nat} {e0 e1 : Env} {D0 D1 : List Nat} {Q Q' : EPostR} (h0 : Same l' e1 e0) (hl : ∀ t, t ∈ l → t ∈ l') (hD : r.isSome = true → D0 = D1) (hq : ∀ x D e w, Q x D e w → Q' x D e w) :
    ∀ x a w, liftR r l e0 D0 Q x a w → liftR r l' e1 D1 Q' x a w := fun x a w ⟨e, D, ha, hs, hd, h⟩ => ⟨e, D, ha, h0.trans (hs.mono hl), fun hr => (hd hr).trans (hD hr), hq x D e w h⟩
theorem upd_putObj (w : World) (l : Nat) (o : Obj) : Upd (fun k => k = l) w (w.putObj l o) := ⟨rfl, rfl, rfl, by simp, fun k _ hk => World.putObj_heap_other hk⟩
theorem upd_alloc (w : World) (o : Obj) : Ext w (w.alloc o) := NewW.ext (o := o) rfl

section
variable {P : Program} {τ : Tab}
theorem asg_cond (c : Operand) (x y : Code) : asg (.cond c x y) = asg x ++ asg y := rfl
/-- a round of the body is what yield comes to -/
theorem yield_of (fn : FuncId) (e : Env) (ps : Array Tmp) (assign body : Code) (D l : Nat) (rec : Rec) (hrec : rec = fun st pe => { state := st, pending := pe, fn, tmps := e.toArray, params := ps, assign, body, defers := D })
    (args : List Value) (hargs : args.length = ps.size) (W : World) (R : Bool → World → Prop) (hr : Rdy rec l W) (N : Env → World → Prop)
    (ha : assign.wpIn (Fr (some l)) 0 P (fun x a w => ∃ e1, a = actd e1 [] ∧ beginQ rec l N x [] e1 w) (actd (wrs e ps.toList args) []) W)
    (hb : ∀ e1 W1, N e1 W1 → body.wpIn (Fr (some l)) 0 P (fun x a w => ∃ Ds e2, roundQ rec l R x Ds e2 w) (actd e1 []) W1) : YieldW P l args.toArray W R := by
  have hr' : W.heap[l]? = some (.loop (rec .ready none)) := hr
  have ht : (ps.zip args.toArray).foldl (fun (t : Array Value) (x : Nat × Value) => t.setIfInBounds x.1 x.2) e.toArray = (wrs e ps.toList args).toArray := by
    rw [← wrs_zip, ← Array.foldl_toList]
    congr 1
    simp
  have hy := run_yield (P := P) (args := args.toArray) hr' (by rw [hrec]; simpa using hargs)
  rw [hrec] at hy
  refine ⟨⟨fn, _, assign, body, hy, roundIn_w (r := none) (n := 0) (roundIn_of_wpIn (F := Fr none) trivial ?_)⟩⟩
  have hta : ({ tmps := (ps.zip args.toArray).foldl (fun (tmps : Array Value) (x : Tmp × Value) => match x with | (t, a) => tmps.setIfInBounds t a) e.toArray, defers := [] } : Act) = actd (wrs e ps.toList args) [] :=
    congrArg (fun t => (⟨t, []⟩ : Act)) ht
  refine (congrArg (fun a => Code.wpIn _ _ _ _ _ a _) hta).mpr ?_
  refine wpIn_mono ha ?_
  rintro x a w1 ⟨e1, rfl, hq⟩
  cases x with
  | normal =>
    obtain ⟨h1, h2⟩ := hq
    have h1' : w1.heap[l]? = some (.loop (rec .ready none)) := h1
    have hlt := (Array.getElem?_eq_some_iff.1 h1').1
    refine ⟨_, run_beginRound h1' (by rw [hrec]), ?_⟩
    have h3 := h2 _ (upd_putObj w1 l _) (by simp) (by
      show (w1.putObj l (.loop { rec .ready none with state := .busy })).heap[l]? = _
      rw [World.putObj_heap_same hlt, hrec])
    refine wpIn_mono (hb _ _ h3) ?_
    rintro y a2 w2 ⟨Ds, e2, hq2⟩
    have fin : ∀ (jump : Option Code), Bsy rec l w2 → (Instr.endRound l jump).run P w2 = .ok (.bool jump.isNone) (w2.putObj l (.loop (rec (if jump.isNone then .ready else .done) jump))) ∧
        (w2.putObj l (.loop (rec (if jump.isNone then .ready else .done) jump))).heap[l]? = some (.loop (rec (if jump.isNone then .ready else .done) jump)) := fun jump hb => by
      have hb' : w2.heap[l]? = some (.loop (rec .busy none)) := hb
      refine ⟨?_, World.putObj_heap_same (Array.getElem?_eq_some_iff.1 hb').1⟩
      have := run_endRound (P := P) jump hb'
      rw [hrec] at this ⊢
      exact this
    cases y with
    | normal =>
      obtain ⟨hb, hk⟩ := hq2
      obtain ⟨f1, f2⟩ := fin none hb
      exact ⟨_, _, f1, true, rfl, hk _ (upd_putObj w2 l _) (by simp) f2⟩
    | ret =>
      obtain ⟨hb, hk⟩ := hq2
      obtain ⟨f1, f2⟩ := fin (some .ret) hb
      exact ⟨_, _, f1, false, rfl, hk _ (upd_putObj w2 l _) (by simp) f2⟩
    | exit i =>
      obtain ⟨hb, hk⟩ := hq2
      obtain ⟨f1, f2⟩ := fin (some (.exit i)) hb
      exact ⟨_, _, f1, false, rfl, hk _ (upd_putObj w2 l _) (by simp) f2⟩
    | _ => exact hq2.elim
  | _ => exact hq.elim
/-- behind the function that was ranged over -/
theorem out_of {r : Option Nat} {n : Nat} (fn : FuncId) (e : Env) (ps : Array Tmp) (assign body : Code) (D l : Nat) (rec : Rec) (hrec : rec = fun st pe => { state := st, pending := pe, fn, tmps := e.toArray, params := ps, assign, body, defers := D })
    (Q : EPostR) (Ds : List Nat) (w2 : World) (QA : Exit → Act → World → Prop) (hQ : ∀ x w, Q x Ds e w → QA x (actd e (Ds.map mark)) w) (v : Value) (h : outR rec l body Q Ds e w2) :
    rangePost (Fr r) n P l QA (actd e (Ds.map mark)) (.returned v) w2 := by
  rcases h with ⟨h1, h2⟩ | h | h
  · have h1' : w2.heap[l]? = some (.loop (rec .ready none)) := h1
    have := run_endLoop (P := P) h1' (by rw [hrec]; simp)
    refine ⟨none, _, by rw [hrec] at this; exact this, hQ _ _ (h2 _ (upd_putObj w2 l _) (by simp))⟩
  · split at h
    · obtain ⟨h1, h2⟩ := h
      have h1' : w2.heap[l]? = some (.loop (rec .done (some .ret))) := h1
      have := run_endLoop (P := P) h1' (by rw [hrec]; simp)
      refine ⟨some .ret, _, by rw [hrec] at this; exact this, wpIn_ret (hQ _ _ (h2 _ (upd_putObj w2 l _) (by simp)))⟩
    · exact h.elim
  · obtain ⟨i, h1, h2⟩ := exOr_spec _ _ h
    have h1' : w2.heap[l]? = some (.loop (rec .done (some (.exit i)))) := h1
    have := run_endLoop (P := P) h1' (by rw [hrec]; simp)
    refine ⟨some (.exit i), _, by rw [hrec] at this; exact this, wpIn_exit (hQ _ _ (h2 _ (upd_putObj w2 l _) (by simp)))⟩
theorem range_invoke (hτ : τ.Ok P) {gf : Nat} (hg : isIn τ.fns gf = true) {fi ca : Array Value} {e : Env} {ds : List Deferred} {g : Operand} (hv : ev e g = .func (.func gf) fi ca) (l : Nat) (w : World) :
    ∃ d, (resolve (actd e ds).eval (rangeCall g l) 0).run P w = .ok d w ∧ (invoke d.target d.args).run P w = .ok (.enter gf (fi.toList ++ (Value.func (.yield l) #[] #[] :: ca.toList)).toArray) w := by
  have ha : (fi ++ #[Value.func (.yield l) #[] #[]] ++ ca) = (fi.toList ++ (Value.func (.yield l) #[] #[] :: ca.toList)).toArray := by
    apply Array.ext'
    simp
  have hyv : ev e (.const (.func (.yield l) #[] #[])) = .func (.yield l) #[] #[] := rfl
  refine ⟨_, by simp [resolve, evd_eq, hv, Deferred.ofValue]; rfl, ?_⟩
  simp [invoke, run_callFunc hτ gf hg, hyv, ha]
theorem asg_not {c : Code} {l : List Nat} : ∀ t, t ∈ asg c → t ∈ asg c ++ l := fun t h => List.mem_append_left _ h
theorem leaf_sound (hτ : τ.Ok P) (ann cuts : Ann) (ords : Ords) (c : Code) {r : Option Nat} {n : Nat} (Q : EPostR) (Ds : List Nat) (e : Env) (w : World) (hl : lexOk r.isNone ords c = true)
    (h : denC P τ ann cuts ords c (fun x e w => Q x Ds e w) e w) : c.wpIn (Fr r) n P (liftR r (asg c) e Ds Q) (actd e (Ds.map mark)) w :=
  wpIn_mono (denC_sound hτ ann cuts ords c _ e w hl h) fun x a w ⟨e', ha, hs, hq⟩ => ⟨e', Ds, ha, hs, fun _ => rfl, hq⟩
theorem denR_sound (hτ : τ.Ok P) (ann cuts : Ann) (ords : Ords) : ∀ (c : Code) (r : Option Nat) (n : Nat) (Q : EPostR) (Ds : List Nat) (e : Env) (w : World), lexR ords r.isNone c = true → denR P τ ann cuts ords r c Q Ds e w →
    c.wpIn (Fr r) n P (liftR r (asg c) e Ds Q) (actd e (Ds.map mark)) w := by
  intro c
  induction c with
  | seq a b iha ihb =>
    intro r n Q Ds e w hl h
    unfold lexR at hl
    unfold denR at h
    split at h
    · rename_i vs hab ha _
      rw [hab] at hl
      simp only [Bool.and_eq_true] at hl
      obtain ⟨J, h1, h2⟩ := h
      have hla : lexOk r.isNone ords a = true := by
        have h1 := hl.1
        clear hab iha ihb h1 h2
        cases a <;> unfold lexR at hl <;> first | exact hl.1 | (simp only [hasR] at ha; rw [ha] at hl; exact hl.1) | (simp [hasR] at ha)
      refine wpIn_seq (wpIn_mono (denC_sound hτ ann cuts ords a _ e w hla h1) ?_)
      rintro x a' w' ⟨e', rfl, hs, hq⟩
      cases x with
      | normal =>
        have h3 := h2 (rd e')
        rw [asgK_eq, havocK_eq, allK_eq] at h3
        have := allD_spec vs _ e' J _ w' (by rw [← headK_eq]; exact hq) h3
        rw [havoc_same _ e e' hs.len (fun t ht => hs.out t fun h => ht (mem_asgA a [] t (.inl h))), copyS_self] at this
        refine wpIn_mono (ihb r n Q Ds e' w' hl.2 this) ?_
        exact liftR_mono (hs.mono fun t ht => List.mem_append_left _ ht) (fun t ht => List.mem_append_right _ ht) (fun _ => rfl) fun _ _ _ _ h => h
      | _ => exact ⟨e', Ds, rfl, hs.mono fun t ht => List.mem_append_left _ ht, fun _ => rfl, hq⟩
    · rename_i hab _
      rw [hab] at hl
      simp only [Bool.and_eq_true] at hl
      refine wpIn_seq (wpIn_mono (iha r n _ Ds e w hl.1 h) ?_)
      rintro x a' w' ⟨e', Ds', rfl, hs, hd, hq⟩
      cases x with
      | normal =>
        refine wpIn_mono (ihb r n Q Ds' e' w' hl.2 hq) ?_
        exact liftR_mono (hs.mono fun t ht => List.mem_append_left _ ht) (fun t ht => List.mem_append_right _ ht) hd fun _ _ _ _ h => h
      | _ => exact ⟨e', Ds', rfl, hs.mono fun t ht => List.mem_append_left _ ht, hd, hq⟩
    · rename_i hab
      rw [hab] at hl
      exact leaf_sound hτ ann cuts ords _ Q Ds e w hl h
  | cond c x y ihx ihy =>
    intro r n Q Ds e w hl h
    unfold lexR at hl
    unfold denR at h
    split at h
    · rename_i hxy
      rw [hxy] at hl
      simp only [Bool.and_eq_true] at hl
      rw [evK_eq] at h
      unfold condV at h
      split at h
      · rename_i b hb
        refine wpIn_cond_split (t := b) (by rw [evd_eq]; exact hb) (fun ht => ?_) (fun ht => ?_)
        · refine wpIn_mono (ihx r n Q Ds e w hl.1 ((gd_spec h).1 ht)) (liftR_mono (.refl _ _) (fun t ht => List.mem_append_left _ ht) (fun _ => rfl) fun _ _ _ _ h => h)
        · refine wpIn_mono (ihy r n Q Ds e w hl.2 ((gd_spec h).2 ht)) (liftR_mono (.refl _ _) (fun t ht => List.mem_append_right _ ht) (fun _ => rfl) fun _ _ _ _ h => h)
      · exact h.elim
    · rename_i hxy
      rw [hxy] at hl
      exact leaf_sound hτ ann cuts ords _ Q Ds e w hl h
  | block i c ih =>
    intro r n Q Ds e w hl h
    unfold lexR at hl
    unfold denR at h
    split at h
    · rename_i hc
      rw [hc] at hl
      refine wpIn_block (wpIn_mono (ih r n _ Ds e w hl h) ?_)
      rintro x a w' ⟨e', Ds', rfl, hs, hd, hq⟩
      cases x with
      | exit j =>
        unfold inBlkR at hq
        unfold Exit.inBlock
        simp only [] at hq ⊢
        split
        · rename_i hj; rw [if_pos hj] at hq; exact ⟨e', Ds', rfl, hs, hd, hq⟩
        · rename_i hj; rw [if_neg hj] at hq; exact ⟨e', Ds', rfl, hs, hd, hq⟩
      | _ => exact ⟨e', Ds', rfl, hs, hd, hq⟩
    · rename_i hc
      rw [hc] at hl
      exact leaf_sound hτ ann cuts ords _ Q Ds e w hl h
  | rangeFunc g ps assign body iha ihb =>
    intro r n Q Ds e w hl h
    unfold lexR at hl
    simp only [Bool.and_eq_true] at hl
    -- a round, by what is shown of it
    have round : ∀ (fn : FuncId) (D l : Nat) (rec : Rec), (rec = fun st pe => { state := st, pending := pe, fn, tmps := e.toArray, params := ps, assign, body, defers := D }) → ∀ vs : Car, beqN (fsts vs) ps.toList = true →
        argsA vs fun args => ∀ (W : World) (R : Bool → World → Prop), Rdy rec l W →
          (wrsK e (fsts vs) args fun e' => denR P τ ann cuts ords (some l) assign (beginQ rec l fun e1 W1 => denR P τ ann cuts ords (some l) body (roundQ rec l R) [] e1 W1) [] e' W) → YieldW P l args.toArray W R := by
      intro fn D l rec hrec vs hvs
      have hps := beqN_spec _ _ hvs
      refine argsA_of vs _ fun args hargs W R hr hk => ?_
      rw [wrsK_eq, hps] at hk
      have hsz : args.length = ps.size := by
        rw [hargs, ← fsts_len, hps]; simp
      refine yield_of fn e ps assign body D l rec hrec args hsz W R hr (fun e1 W1 => denR P τ ann cuts ords (some l) body (roundQ rec l R) [] e1 W1) (wpIn_mono (iha (some l) 0 _ [] _ W hl.1 hk) ?_) fun e1 W1 hN => wpIn_mono (ihb (some l) 0 _ [] e1 W1 hl.2 hN) ?_
      · rintro x a w1 ⟨e1, Ds1, rfl, _, hd, hq⟩
        obtain rfl := hd rfl
        exact ⟨e1, rfl, hq⟩
      · rintro x a w1 ⟨e1, Ds1, rfl, _, hd, hq⟩
        exact ⟨Ds1, e1, hq⟩
    cases r with
    | none =>
      unfold denR at h
      rw [evK_eq] at h
      split at h
      · rename_i gf fi ca vs hv hvs
        obtain ⟨⟨hg, hps⟩, h⟩ := h
        refine wpIn_rangeFunc ?_
        intro fn _
        obtain ⟨rec, hrec⟩ : ∃ rec : Rec, rec = fun st pe => { state := st, pending := pe, fn, tmps := e.toArray, params := ps, assign, body, defers := w.heap.size } := ⟨_, rfl⟩
        obtain ⟨W1, hW1⟩ : ∃ W1, (w.alloc (.deferred (some []))).alloc (.loop (rec .ready none)) = W1 := ⟨_, rfl⟩
        have hL1 : Rdy rec (w.heap.size + 1) W1 := by
          rw [← hW1]; have := World.alloc_heap_new (w.alloc (.deferred (some []))) (.loop (rec .ready none)); rwa [World.size_alloc] at this
        have hK1 : Dfr w.heap.size W1 := by
          rw [← hW1]; exact (Below.heap_alloc _ _ _ (by simp)).trans (World.alloc_heap_new w _)
        have hx1 : Ext w W1 := by rw [← hW1]; exact (upd_alloc w _).trans (upd_alloc _ _)
        obtain ⟨d, hd1, hd2⟩ := range_invoke hτ hg (ds := Ds.map mark) hv (w.heap.size + 1) W1
        have hc := h rec w.heap.size (w.heap.size + 1) W1 hx1 ⟨Nat.le_refl _, by omega, by omega⟩ hK1 hL1 (round fn _ _ rec hrec vs hps)
        refine ⟨w.heap.size + 1, [mark w.heap.size], W1, d, W1, gf, _, W1, ?_, hd1, fun _ _ => trivial, hd2, fun hd => by simp [Fence.wide] at hd, callsIn_r (hc.h.mono ?_)⟩
        · rw [← hW1, hrec]; exact run_enterLoop_outer _ _ _ _ _
        · rintro en w2 ⟨v, rfl, ho⟩
          exact out_of (r := none) fn e ps assign body w.heap.size _ rec hrec Q (w.heap.size :: Ds) w2 _ (fun x w hq => ⟨e, _, rfl, .refl _ _, fun h => (by cases h), hq⟩) v ho
      · exact h.elim
    | some l0 =>
      unfold denR at h
      rw [evK_eq] at h
      split at h
      · rename_i gf fi ca vs hv hvs
        obtain ⟨⟨hg, hps, lp, hlp⟩, h⟩ := h
        refine wpIn_rangeFunc ?_
        intro fn _
        obtain ⟨rec, hrec⟩ : ∃ rec : Rec, rec = fun st pe => { state := st, pending := pe, fn, tmps := e.toArray, params := ps, assign, body, defers := lp.defers } := ⟨_, rfl⟩
        obtain ⟨W1, hW1⟩ : ∃ W1, w.alloc (.loop (rec .ready none)) = W1 := ⟨_, rfl⟩
        have hL1 : Rdy rec w.heap.size W1 := by rw [← hW1]; exact World.alloc_heap_new w _
        have hx1 : Ext w W1 := by rw [← hW1]; exact upd_alloc w _
        obtain ⟨d, hd1, hd2⟩ := range_invoke hτ hg (ds := Ds.map mark) hv w.heap.size W1
        have hc := h rec w.heap.size W1 hx1 (Nat.le_refl _) hL1 (round fn _ _ rec hrec vs hps)
        refine ⟨w.heap.size, [], W1, d, W1, gf, _, W1, ?_, hd1, fun _ _ => trivial, hd2, fun hd => by simp [Fence.wide] at hd, callsIn_r (hc.h.mono ?_)⟩
        · rw [← hW1, hrec]; exact run_enterLoop_inner hlp _ _ _ _ _
        · rintro en w2 ⟨v, rfl, ho⟩
          exact out_of (r := some l0) fn e ps assign body lp.defers _ rec hrec Q Ds w2 _ (fun x w hq => ⟨e, _, rfl, .refl _ _, fun _ => rfl, hq⟩) v ho
      · exact h.elim
  | skip => intro r n Q Ds e w hl h; exact leaf_sound hτ ann cuts ords _ Q Ds e w hl h
  | region i ops d => intro r n Q Ds e w hl h; exact leaf_sound hτ ann cuts ords _ Q Ds e w hl h
  | loop c ih => intro r n Q Ds e w hl h; exact leaf_sound hτ ann cuts ords _ Q Ds e w hl h
  | exit i => intro r n Q Ds e w hl h; exact leaf_sound hτ ann cuts ords _ Q Ds e w hl h
  | scope c ih => intro r n Q Ds e w hl h; exact leaf_sound hτ ann cuts ords _ Q Ds e w hl h
  | label l => intro r n Q Ds e w hl h; exact leaf_sound hτ ann cuts ords _ Q Ds e w hl h
  | goto l => intro r n Q Ds e w hl h; exact leaf_sound hτ ann cuts ords _ Q Ds e w hl h
  | ret => intro r n Q Ds e w hl h; exact leaf_sound hτ ann cuts ords _ Q Ds e w hl h
  | refuse s => intro r n Q Ds e w hl h; exact leaf_sound hτ ann cuts ords _ Q Ds e w hl h

/-! ### a call of a function that ranges over functions -/
def dfrs : List Nat → World → Prop
  | [], _ => True
  | D :: l, w => Dfr D w ∧ dfrs l w
def inL : List Nat → Nat → Prop
  | [], _ => False
  | D :: l, k => k = D ∨ inL l k
def distinct : List Nat → Prop
  | [] => True
  | D :: l => ¬ inL l D ∧ distinct l
def endR (τ : Tab) (rs : List ResultVar) (R : Ending → World → Prop) : EPostR
  | .normal, Ds, e, w => distinct Ds ∧ dfrs Ds w ∧ ∀ w', Upd (inL Ds) w w' → w'.heap.size = w.heap.size → resK τ w' rs e [] fun vs => tupV vs fun v => R (.returned v) w'
  | .ret, Ds, e, w => distinct Ds ∧ dfrs Ds w ∧ ∀ w', Upd (inL Ds) w w' → w'.heap.size = w.heap.size → resK τ w' rs e [] fun vs => tupV vs fun v => R (.returned v) w'
  | _, _, _, _ => False
theorem leaves_marks {fn : Func} {tmps : Array Value} {R : Ending → World → Prop} : ∀ (Ds : List Nat) (w : World), distinct Ds → dfrs Ds w →
    (∀ w', Upd (inL Ds) w w' → w'.heap.size = w.heap.size → ∃ v, (results fn tmps).run P w' = .ok v w' ∧ R (.returned v) w') → LeavesInM (Fr none) 0 P fn tmps R (Ds.map mark) .returning w
  | [], w, _, _, h => h w (.refl _ _) rfl
  | D :: l, w, hd, hf, h => by
    have h1 : w.heap[D]? = some (.deferred (some [])) := hf.1
    refine ⟨by simp, .inl ⟨D, _, rfl, run_takeDeferred h1, ?_⟩⟩
    have hu := upd_putObj w D (.deferred none)
    refine leaves_marks l _ hd.2 ?_ fun w' hu' hs => h w' (hu.trans hu' fun i _ hi => ⟨fun e => hi (.inl e), fun e => hi (.inr e)⟩) (by rw [hs]; simp)
    have : ∀ (l' : List Nat), (∀ k, inL l' k → k ≠ D) → dfrs l' w → dfrs l' (w.putObj D (.deferred none)) := by
      intro l'
      induction l' with
      | nil => intro _ _; trivial
      | cons k l' ih =>
        intro hne hf
        refine ⟨?_, ih (fun k' hk => hne k' (.inr hk)) hf.2⟩
        show (w.putObj D _).heap[k]? = _
        rw [World.putObj_heap_other (hne k (.inl rfl))]
        exact hf.1
    exact this l (fun k hk e => hd.1 (e ▸ hk)) hf.2
theorem calls_denR (hτ : τ.Ok P) (ann cuts : Ann) (ords : Ords) (rs : List ResultVar) (e : Env) {f : FuncId} {fn : Func} {c : Code} {args : List Value} {w : World} {R : Ending → World → Prop} (n : Nat)
    (hf : P.funcs[f]? = some fn) (hb : fn.body = some c) (hl : lexR ords true c = true) (hn : fn.ntmps = args.length + n) (hr : fn.results.toList = rs) (he : args ++ List.replicate n undef = e)
    (h : denR P τ ann cuts ords none c (endR τ rs R) [] e w) : Calls P f args.toArray w R := by
  subst hr
  subst he
  refine (callsIn_wide (n := 0)).1 (callsIn_of_wp_marks hf hb trivial ?_)
  have ha : (args.toArray ++ Array.replicate (fn.ntmps - args.toArray.size) undef) = (args ++ List.replicate n undef).toArray := by
    apply Array.ext'
    simp [hn]
  rw [ha]
  refine wpIn_mono (denR_sound hτ ann cuts ords c none 0 _ [] _ w hl h) ?_
  rintro x a w' ⟨e, Ds, rfl, _, _, hq⟩
  have fin : (distinct Ds ∧ dfrs Ds w' ∧ ∀ w'', Upd (inL Ds) w' w'' → w''.heap.size = w'.heap.size → resK τ w'' fn.results.toList e [] fun vs => tupV vs fun v => R (.returned v) w'') → LeavesInM (Fr none) 0 P fn (actd e (Ds.map mark)).tmps R (actd e (Ds.map mark)).defers .returning w' := by
    rintro ⟨h1, h2, h3⟩
    refine leaves_marks Ds w' h1 h2 fun w'' hu hs => ?_
    obtain ⟨vs, hk, hr⟩ := resK_run (P := P) hτ w'' _ e [] _ (h3 w'' hu hs)
    rw [tupV_eq] at hk
    refine ⟨_, ?_, hk⟩
    unfold results
    have hm : (fn.results.mapM (m := Sem) fun
        | .tmp t => pure ((act e).tmps.getD t undef)
        | .cell a t => do loadVar t (← asAddr ((act e).tmps.getD a undef))).run P w'' = .ok vs.toArray w'' := by
      rw [← Array.toArray_toList (xs := fn.results), List.mapM_toArray]
      simp only [Sem.run_map]
      exact (congrArg (fun r => Result.andThen r _) hr).trans rfl
    simp only [Sem.run_bind]
    refine (congrArg (fun r => Result.andThen r _) hm).trans ?_
    simp only [Result.andThen_ok, Sem.run_pure, List.reverse_nil, List.nil_append]
    congr 1
    match vs with
    | [] => rfl
    | [v] => rfl
    | a :: b :: r => simp
  cases x with
  | normal => exact fin hq
  | ret => exact fin hq
  | _ => exact hq.elim
end
end Go.Proofs.YtihnjjmbcbfheaaDoor.V
