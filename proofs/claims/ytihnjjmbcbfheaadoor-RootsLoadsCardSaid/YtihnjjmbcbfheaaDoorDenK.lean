/-
  'denC': what has to be shown of a piece of code, each value reckoned before it is handed on; and that it is enough.
-/
import Derived.Test.YtihnjjmbcbfheaaDoorHeld
import Derived.TacticsIn
namespace Go.Proofs.YtihnjjmbcbfheaaDoor.V
open Go Go.RowKit
set_option linter.unusedVariables false
set_option linter.unusedSimpArgs false

def convV (P : Program) (τ : Tab) (s d : Nat) (x : Value) (w : World) (K : KW) : Prop :=
  match x with
  | .int k n => convD τ s d (.int k n) fun v => K v w
  | x => runD P (lk τ.sh d) (convert s d x) w K
def opC (P : Program) (τ : Tab) (o : Op) (ty : Nat) (e : Env) (w : World) (K : KW) : Prop :=
  match o with
  | .load t x => evK e x fun a => loadD τ t a w fun v => K v w
  | .store t x y => evK e x fun a => evK e y fun b => storeD τ t a b w fun w' => K undef w'
  | .alloc t => allocD τ t w K
  | .box t x => evK e x fun a => boxD t a w K
  | .makeSlice t l c => evK e l fun l => evK e c fun c => makeSliceD τ t l c w K
  | .buildSlice t n parts => evpK e parts.toList fun l => buildSliceD τ t n l w K
  | .convert s d x => evK e x fun a => convV P τ s d a w K
  | .call c =>
    match c.callee with
    | .value f => evK e f fun f => evsK e c.args.toList fun l => callC P τ ty f l w K
    | .builtin .append => evsK e c.args.toList fun l => runD P (lk τ.sh ty) (Builtin.append_ c.argTypes ty l.toArray) w K
    | .builtin .copy => evsK e c.args.toList fun l => runD P (some (.int .i64)) (Builtin.copy_ c.argTypes ty l.toArray) w K
    | .builtin .clear => evsK e c.args.toList fun l => runD P none (Builtin.clear_ c.argTypes ty l.toArray) w K
    | _ => pureC τ (.call c) e fun v => K v w
  | .makeMap t r => evoK e r fun r => runD P (some .map) (Instr.makeMap t r) w K
  | .lookup t x i ok => evK e x fun a => evK e i fun b => runD P (lk τ.sh ty) (Instr.lookup t a b ok) w K
  | .mapUpdate t m k x => evK e m fun m => evK e k fun k => evK e x fun x => updD P (Instr.mapUpdate t m k x) w K
  | .insert t m k x => evK e m fun m => evK e k fun k => evK e x fun x => updD P (Instr.mapUpdate t m k x) w K
  | .range t x => evK e x fun a => runD P (some .ptr) (Instr.range t a) w K
  | .next x s => evK e x fun a => nextD P (Instr.next a s ty) w K
  | .entry x => evK e x fun a => entryD P (Instr.entry a) w K
  | o => pureC τ o e fun v => K v w
theorem opC_sem {P : Program} {τ : Tab} (hτ : τ.Ok P) {o : Oper} {e : Env} {w : World} {K : KW} (h : opC P τ o.op o.type e w K) : OpSem P o e w K := by
  have imp : (∀ c f, o.op = .call c → c.callee ≠ .value f) → opD P τ o.op o.type e w K := by
    intro hn
    generalize o.type = ty at h ⊢
    generalize o.op = op at h hn ⊢
    cases op <;> simp only [opC, evK_eq, evoK_eq, evpK_eq, evsK_eq, pureC_eq] at h <;> unfold opD <;> try exact h
    case call c =>
      simp only []
      split at h
      · rename_i f hf
        exact (hn c f rfl hf).elim
      · rename_i hf; simp only [hf]; exact h
      · rename_i hf; simp only [hf]; exact h
      · rename_i hf; simp only [hf]; exact h
      · split
        · rename_i h1 _ _ _ _ _ hf; exact (h1 _ hf).elim
        · rename_i h1 _ _ _ hf; exact (h1 hf).elim
        · rename_i h1 _ _ hf; exact (h1 hf).elim
        · rename_i h1 _ hf; exact (h1 hf).elim
        · exact h
  by_cases hc : ∃ c f, o.op = .call c ∧ c.callee = .value f
  · obtain ⟨c, f, ho, hf⟩ := hc
    rw [ho] at h
    simp only [opC, hf, evK_eq, evsK_eq] at h
    exact callC_sem hτ ho hf h
  · exact opD_sem hτ o e w K (imp fun c f h1 h2 => hc ⟨c, f, h1, h2⟩)
def qopC (P : Program) (τ : Tab) (o : Op) (ty : Nat) (e : Env) (w : World) (K : Value → Prop) : Prop :=
  match o with
  | .load t x => evK e x fun a => loadD τ t a w K
  | .call c =>
    match c.callee with
    | .value f => evK e f fun f => evsK e c.args.toList fun l => callQC P τ ty f l w K
    | _ => pureC τ (.call c) e K
  | .convert s d x => evK e x fun a => convQ P τ s d a w K
  | o => pureC τ o e K
theorem exP_mono : ∀ (n : Nat) (K K' : List Value → Prop), (∀ v, K v → K' v) → exP n K → exP n K'
  | 0, _, _, hm, h => hm _ h
  | n + 1, _, _, hm, ⟨a, h⟩ => ⟨a, exP_mono n _ _ (fun _ hv => hm _ hv) h⟩
mutual
theorem ex_mono : ∀ (s : Sh) (K K' : Value → Prop), (∀ v, K v → K' v) → s.ex K → s.ex K'
  | .int _, _, _, hm, ⟨x, hx⟩ => ⟨x, hm _ hx⟩
  | .bool, _, _, hm, ⟨x, hx⟩ => ⟨x, hm _ hx⟩
  | .str, _, _, hm, ⟨x, hx⟩ => ⟨x, hm _ hx⟩
  | .ptr, _, _, hm, ⟨x, hx⟩ => ⟨x, hm _ hx⟩
  | .slice, _, _, hm, ⟨x, hx⟩ => ⟨x, hm _ hx⟩
  | .map, _, _, hm, ⟨x, hx⟩ => ⟨x, hm _ hx⟩
  | .raw, _, _, hm, ⟨x, hx⟩ => ⟨x, hm _ hx⟩
  | .agg l, _, _, hm, h => exL_mono l _ _ (fun _ hv => hm _ hv) h
  | .tup l, _, _, hm, h => exL_mono l _ _ (fun _ hv => hm _ hv) h
  | .clo f n, _, _, hm, h => exP_mono n _ _ (fun _ hv => hm _ hv) h
  | .fnv f n, _, _, hm, h => h.elim (fun h => .inl (hm _ h)) fun h => .inr (exP_mono n _ _ (fun _ hv => hm _ hv) h)
theorem exL_mono : ∀ (l : List Sh) (K K' : List Value → Prop), (∀ v, K v → K' v) → Sh.exL l K → Sh.exL l K'
  | [], _, _, hm, h => hm _ h
  | s :: l, _, _, hm, h => ex_mono s _ _ (fun _ hv => exL_mono l _ _ (fun _ hvs => hm _ hvs) hv) h
end
theorem qopC_imp {P : Program} {τ : Tab} {o : Op} {ty : Nat} {e : Env} {w : World} {K : Value → Prop} (h : qopC P τ o ty e w K) : qopD P τ o ty e w K := by
  cases o <;> simp only [qopC, evK_eq, evoK_eq, evpK_eq, evsK_eq, pureC_eq] at h <;> unfold qopD <;> try exact h
  case call c =>
    simp only []
    split at h
    · rename_i f hf
      simp only [hf]
      unfold callQC at h
      split at h
      · rename_i hs hx
        rw [hs]
        refine ⟨h.1, ?_⟩
        rw [hx]
        exact ex_mono _ _ _ (fun v hv => ⟨fun w' hw' => (hv.1 w' hw').h, hv.2⟩) h.2
      · rename_i hs hx
        rw [hs]
        refine ⟨h.1, ?_⟩
        rw [hx]
        obtain ⟨v, hv⟩ := h.2
        exact ⟨v, fun w' hw' => (hv.1 w' hw').h, hv.2⟩
      · exact h.elim
    · split
      · rename_i h1 _ _ hf; exact (h1 _ hf).elim
      · exact h

def guardV (v : Value) (d : Nat) (want : Bool) (e : Env) (yes no : Env → Prop) : Prop :=
  match v with
  | .bool b => gd b want (wrK e d (.bool want) yes) (wrK e d (.bool (!want)) no)
  | _ => no e
def guardG : List Oper → Nat → Bool → Env → (Env → Prop) → (Env → Prop) → Prop
  | [], _, _, _, _, _ => False
  | o :: _, 0, want, e, yes, no =>
    match o.dst with
    | some d => rdK e d fun v => guardV v d want e yes no
    | none => False
  | _ :: l, n + 1, want, e, yes, no => guardG l n want e yes no
def guardC (all : List Oper) (g : Option (Nat × Bool)) (e : Env) (yes no : Env → Prop) : Prop :=
  match g with
  | none => yes e
  | some (j, want) => guardG all j want e yes no
theorem guardG_eq : ∀ (all : List Oper) (j : Nat) (want : Bool) (e : Env) (yes no : Env → Prop), guardG all j want e yes no = guardD all (some (j, want)) e yes no
  | [], _, _, _, _, _ => rfl
  | o :: _, 0, want, e, yes, no => by
    unfold guardD guardG
    simp only [gdst]
    cases o.dst with
    | none => rfl
    | some d =>
      simp only [rdK_eq, guardV, wrK_eq]
      cases rd e d <;> rfl
  | _ :: l, n + 1, want, e, yes, no => guardG_eq l n want e yes no
theorem guardC_eq (all : List Oper) (g : Option (Nat × Bool)) (e : Env) (yes no : Env → Prop) : guardC all g e yes no = guardD all g e yes no := by
  cases g with
  | none => rfl
  | some p => exact guardG_eq ..

def opsC (P : Program) (τ : Tab) (all : List Oper) : List Oper → (Env → World → Prop) → Env → World → Prop
  | [], Q, e, w => Q e w
  | o :: r, Q, e, w => guardC all o.guard e
      (fun e => opC P τ o.op o.type e w fun v w' => putK e o.dst v fun e' => opsC P τ all r Q e' w')
      (fun e => putK e o.dst undef fun e' => opsC P τ all r Q e' w)
def qopsC (P : Program) (τ : Tab) (all : List Oper) (w : World) : List Oper → (Env → Prop) → Env → Prop
  | [], Q, e => Q e
  | o :: r, Q, e => guardC all o.guard e
      (fun e => qopC P τ o.op o.type e w fun v => putK e o.dst v fun e' => qopsC P τ all w r Q e')
      (fun e => putK e o.dst undef fun e' => qopsC P τ all w r Q e')
section
variable {P : Program} {τ : Tab} {r : Option Nat} {n : Nat} {ds : List Deferred}
theorem opsC_sound (hτ : τ.Ok P) (all : List Oper) (Q : Exit → Act → World → Prop) : ∀ (l : List Oper) (N : Env → World → Prop) (e : Env) (w : World),
    opsC P τ all l N e w → (∀ e' w', Same (asgO l) e e' → N e' w' → Q .normal (actd e' ds) w') → wpListIn (Fr r) n P all.toArray Q l (actd e ds) w := by
  intro l
  induction l with
  | nil => intro N e w h hq; exact hq e w (.refl _ _) h
  | cons o rs ih =>
    intro N e w h hq
    unfold opsC at h
    rw [guardC_eq] at h
    have step : ∀ v, Same (asgO (o :: rs)) e (put e o.dst v) := fun v => .put e o.dst v fun x hx => (asgO_cons o rs x).1 hx
    have rest : ∀ v w', (putK e o.dst v fun e' => opsC P τ all rs N e' w') → wpListIn (Fr r) n P all.toArray Q rs (actd (put e o.dst v) ds) w' := fun v w' h' =>
      ih N _ w' (by rw [putK_eq] at h'; exact h') fun e' w'' hs hN => hq e' w'' ((step v).trans (hs.mono fun t ht => (asgO_cons o rs t).2 ht)) hN
    rcases guardD_spec all o e _ _ h with ⟨hw, h⟩ | ⟨hw, h⟩
    · unfold wpListIn
      rw [if_pos hw]
      exact (opC_sem hτ h).wpIn rest
    · unfold wpListIn
      rw [hw]
      simp only [Bool.false_eq_true, if_false, putd_eq]
      exact ⟨fun _ _ => trivial, rest _ _ h⟩
theorem qopsC_sound (hτ : τ.Ok P) (all : List Oper) (w : World) (Q : Act → Prop) : ∀ (l : List Oper) (N : Env → Prop) (e : Env),
    qopsC P τ all w l N e → (∀ e', Same (asgO l) e e' → N e' → Q (actd e' ds)) → wpQuiet P all.toArray (fun w' => Qt w w') Q l (actd e ds) := by
  intro l
  induction l with
  | nil => intro N e h hq; exact hq e (.refl _ _) h
  | cons o r ih =>
    intro N e h hq
    unfold qopsC at h
    rw [guardC_eq] at h
    have step : ∀ v, Same (asgO (o :: r)) e (put e o.dst v) := fun v => .put e o.dst v fun x hx => (asgO_cons o r x).1 hx
    have rest : ∀ v, (putK e o.dst v fun e' => qopsC P τ all w r N e') → wpQuiet P all.toArray (fun w' => Qt w w') Q r (actd (put e o.dst v) ds) := fun v h' =>
      ih N _ (by rw [putK_eq] at h'; exact h') fun e' hs hN => hq e' ((step v).trans (hs.mono fun t ht => (asgO_cons o r t).2 ht)) hN
    rcases guardD_spec all o e _ _ h with ⟨hw, h⟩ | ⟨hw, h⟩
    · unfold wpQuiet
      rw [if_pos hw]
      exact qopD_sound hτ o e ds w _ _ rest (qopC_imp h)
    · unfold wpQuiet
      rw [hw]
      simp only [Bool.false_eq_true, if_false, putd_eq]
      exact rest _ h
end

/-! a region that draws its order and holds calls that write or make memory: by a given order -/
def hopsG (P : Program) (τ : Tab) (all : List Oper) (R : World → World → Prop) (x : Bool) (o : Oper) (N : Env → World → Prop) (e : Env) (w : World) : Prop :=
  guardC all o.guard e
    (fun e => match effB o.op with
      | true => match x with
        | true => opC P τ o.op o.type e w fun v w' => putK e o.dst v fun e' => N e' w'
        | false => opC P τ o.op o.type e w fun v w' => R w w' ∧ putK e o.dst v fun e' => N e' w'
      | false => stillR P τ o.op e (R w) fun v => putK e o.dst v fun e' => N e' w)
    (fun e => putK e o.dst undef fun e' => N e' w)
def nthO : List Oper → Nat → (Oper → Prop) → Prop
  | [], _, _ => False
  | o :: _, 0, K => K o
  | _ :: l, n + 1, K => nthO l n K
def hopsC (P : Program) (τ : Tab) (all : List Oper) (R : World → World → Prop) : Tr → (Env → World → Prop) → Env → World → Prop
  | .nil, Q, e, w => Q e w
  | .op i r, Q, e, w => match Nat.ble 1000 i with
    | true => nthO all (i - 1000) fun o => hopsG P τ all R true o (hopsC P τ all R r Q) e w
    | false => nthO all i fun o => hopsG P τ all R false o (hopsC P τ all R r Q) e w
  | .or a b, Q, e, w => hopsC P τ all R a Q e w ∧ hopsC P τ all R b Q e w
theorem hopsC_op (P : Program) (τ : Tab) (all : List Oper) (R : World → World → Prop) (i : Nat) (r : Tr) (Q : Env → World → Prop) (e : Env) (w : World) :
    hopsC P τ all R (.op i r) Q e w = nthO all (plc i) fun o => hopsG P τ all R (Nat.ble 1000 i) o (hopsC P τ all R r Q) e w := by
  rw [hopsC, plc]
  cases Nat.ble 1000 i <;> rfl
theorem nthO_spec : ∀ (l : List Oper) (i : Nat) (K : Oper → Prop), nthO l i K → ∃ o, l[i]? = some o ∧ K o
  | [], _, _, h => h.elim
  | o :: _, 0, _, h => ⟨o, rfl, h⟩
  | _ :: l, n + 1, K, h => by simpa using nthO_spec l n K h
section
variable {P : Program} {τ : Tab}
theorem asgO_mem : ∀ (l : List Oper) (i : Nat) (o : Oper) (d : Nat), l[i]? = some o → o.dst = some d → d ∈ asgO l
  | [], _, _, _, h, _ => by simp at h
  | x :: l, 0, o, d, h, hd => by
    simp at h; subst h
    exact (asgO_cons x l d).1 hd
  | x :: l, n + 1, o, d, h, hd => (asgO_cons x l d).2 (asgO_mem l n o d (by simpa using h) hd)
theorem plc_lt {i : Nat} (h : i < 1000) : plc i = i ∧ Nat.ble 1000 i = false := by
  have : Nat.ble 1000 i = false := by
    cases hb : Nat.ble 1000 i with
    | false => rfl
    | true => have := Nat.le_of_ble_eq_true hb; omega
  exact ⟨by unfold plc; rw [this], this⟩
theorem hopsC_sound (hτ : τ.Ok P) {r : Option Nat} {n : Nat} {ds : List Deferred} (l : List Oper) (R : World → World → Prop) (hrefl : ∀ w, R w w) (htrans : ∀ a b c, R a b → R b c → R a c) (hs : Region.noSelect l.toArray = true) (hnd : noDefer l = true)
    (Q : Exit → Act → World → Prop) (hQ : ∀ c a w, ¬ Q (.panic c) a w) (ex : Nat → Bool) : ∀ (t : Tr) (listed : Array Bool) (N : Env → World → Prop) (e : Env) (w : World),
    Closed .any l.toArray listed → (∀ j, ex j = true → listed.getD j true = true ∨ j + 1000 ∈ t.flat) → (∀ j, j + 1000 ∈ t.flat → ex j = true) →
    hopsC P τ l R t N e w → (∀ e' w', Same (asgO l) e e' → N e' w' → Q .normal (actd e' ds) w') →
    (ordB .any l.toArray false t listed = true → wpAnyR r n P .any l.toArray Q R ex t.len listed (actd e ds) w) ∧
    (ordB .any l.toArray true t listed = true → (∃ m, t.len = m + 1 ∧ ∀ i ∈ t.heads, wpOpIn (Fr r) n P l.toArray Q i (fun a' w' => (ex i = false → R w w') ∧ wpAnyR r n P .any l.toArray Q R ex m (listed.setIfInBounds i true) a' w') (actd e ds) w)) := by
  intro t
  induction t with
  | nil =>
    intro listed N e w _ _ _ h hq
    refine ⟨fun ho => ⟨by simpa [ordB] using ho, hq e w (.refl _ _) h⟩, fun ho => by simp [ordB] at ho⟩
  | op i rs ih =>
    intro listed N e w hcl hx1 hx2 h hq
    rw [hopsC_op] at h
    obtain ⟨o, hi, h⟩ := nthO_spec _ _ _ h
    have hi' : l.toArray[plc i]? = some o := by simpa using hi
    have step : ∀ v, Same (asgO l) e (put e o.dst v) := fun v => .put e o.dst v fun x hx => asgO_mem l (plc i) o x hi hx
    have rest : plc i ∈ Region.ready .any l.toArray listed → ordB .any l.toArray false rs (listed.setIfInBounds (plc i) true) = true → ∀ v w', (putK e o.dst v fun e' => hopsC P τ l R rs N e' w') → wpAnyR r n P .any l.toArray Q R ex rs.len (listed.setIfInBounds (plc i) true) (actd (put e o.dst v) ds) w' := fun hr ho2 v w' h' =>
      (ih _ N _ w' (hcl.set hr) (fun j hj => by
        rcases hx1 j hj with h | h
        · left
          by_cases hij : plc i = j
          · subst hij
            rw [(mem_ready.1 hr).1] at h; cases h
          · rw [getD_set_ne true hij]; exact h
        · rcases List.mem_cons.1 h with h | h
          · left
            have : plc i = j := by
              unfold plc
              rw [← h, Nat.ble_eq_true_of_le (Nat.le_add_left 1000 j)]
              exact Nat.add_sub_cancel ..
            subst this
            have hlt := (mem_ready.1 hr).1
            rcases Nat.lt_or_ge (plc i) listed.size with h' | h'
            · simp [h']
            · simp [Array.getElem?_eq_none h'] at hlt
          · exact .inr h) (fun j hj => hx2 j (List.mem_cons_of_mem _ hj)) (by rw [putK_eq] at h'; exact h') fun e' w'' hs hN => hq e' w'' ((step v).trans hs) hN).1 ho2
    unfold hopsG at h
    rw [guardC_eq] at h
    have hg := guardD_spec l o e _ _ h
    -- an effect that comes up
    have eff : effB o.op = true → plc i ∈ Region.ready .any l.toArray listed → ordB .any l.toArray false rs (listed.setIfInBounds (plc i) true) = true →
        wpOpIn (Fr r) n P l.toArray Q (plc i) (fun a' w' => (ex (plc i) = false → R w w') ∧ wpAnyR r n P .any l.toArray Q R ex rs.len (listed.setIfInBounds (plc i) true) a' w') (actd e ds) w := by
      intro heff hr ho2
      rw [heff] at hg
      unfold Go.wpOpIn
      rw [hi']
      simp only []
      rcases hg with ⟨hw, h⟩ | ⟨hw, h⟩
      · rw [if_pos hw]
        cases hb : Nat.ble 1000 i with
        | false =>
          rw [hb] at h
          refine (opC_sem hτ h).wpIn ?_
          rintro v w' ⟨hr', h'⟩
          exact ⟨fun _ => hr', rest hr ho2 v w' h'⟩
        | true =>
          rw [hb] at h
          refine (opC_sem hτ h).wpIn ?_
          intro v w' h'
          refine ⟨fun hx => ?_, rest hr ho2 v w' h'⟩
          have hi2 := Nat.le_of_ble_eq_true hb
          have : ex (plc i) = true := hx2 _ (by unfold plc; rw [hb]; simp only []; rw [Nat.sub_add_cancel hi2]; exact List.mem_cons_self ..)
          rw [this] at hx; cases hx
      · rw [hw]
        simp only [Bool.false_eq_true, if_false, putd_eq]
        exact ⟨fun _ _ => trivial, fun _ => hrefl w, rest hr ho2 _ w h⟩
    refine ⟨fun ho => ?_, fun ho => ?_⟩
    · simp only [ordB, hi', Bool.and_eq_true] at ho
      obtain ⟨ho1, ho2⟩ := ho
      cases heff : effB o.op with
      | false =>
        rw [heff] at ho1 hg
        simp only [Bool.false_eq_true, if_false, Bool.and_eq_true, Nat.blt_eq] at ho1
        obtain ⟨⟨⟨hlt, hr⟩, hfr⟩, hdep⟩ := ho1
        have hpl := (plc_lt hlt).1
        rw [hpl] at hi' rest ho2
        have hr' : i ∈ Region.ready .any l.toArray listed := by simpa using hr
        have hy : ∃ v, YieldsIf P l.toArray (R w) o v (actd e ds) ∧ wpAnyR r n P .any l.toArray Q R ex rs.len (listed.setIfInBounds i true) (actd (put e o.dst v) ds) w := by
          rcases hg with ⟨hw, h⟩ | ⟨hw, h⟩
          · obtain ⟨v, hk, hr⟩ := stillR_sound hτ o e _ _ h
            exact ⟨v, .inl ⟨hw, fun w' hw' => by rw [evd_eq]; exact hr w' hw'⟩, rest hr' ho2 v w hk⟩
          · exact ⟨undef, .inr ⟨hw, rfl⟩, rest hr' ho2 _ w h⟩
        obtain ⟨v, hy, hrest⟩ := hy
        refine wpAnyR_first hrefl htrans hi' (fun j o hj => noDefer_spec l hnd j o (by simpa using hj)) (Region.noSelect_spec hs) (fun c a w h => (hQ c _ _ h).elim) (rs.flat.map plc) rs.len listed (actd e ds) w (Region.free_spec hi' hfr) hcl (fun j hj => ?_) hr' hy ?_
        · rcases hx1 j hj with h | h
          · exact .inl h
          · rcases List.mem_cons.1 h with h | h
            · omega
            · right
              have := List.all_eq_true.1 hdep (j + 1000) h
              simp only [Bool.or_eq_true, Nat.blt_eq] at this
              rcases this with h | h
              · omega
              · simpa using h
        · rw [putd_eq]
          exact hrest
      | true =>
        rw [heff] at ho1
        simp only [if_true, beq_iff_eq] at ho1
        refine ⟨fun h0 => (by rw [ho1] at h0; cases h0), fun j hj => ?_⟩
        have hr : plc i ∈ Region.ready .any l.toArray listed := by rw [ho1]; simp
        rw [ho1] at hj
        obtain rfl : j = plc i := by simpa using hj
        exact eff heff hr ho2
    · simp only [ordB, hi', Bool.and_eq_true] at ho
      obtain ⟨⟨heff, hlt, hr⟩, ho2⟩ := ho
      rw [Nat.blt_eq] at hlt
      have hpl := (plc_lt hlt).1
      have hr' : plc i ∈ Region.ready .any l.toArray listed := by rw [hpl]; simpa using hr
      refine ⟨rs.len, rfl, fun j hj => ?_⟩
      obtain rfl : j = i := by simpa [Tr.heads] using hj
      have := eff heff hr' ho2
      rw [hpl] at this
      exact this
  | or a b iha ihb =>
    intro listed N e w hcl hx1 hx2 h hq
    have key : ∀ {alt : Bool}, ordB .any l.toArray alt (.or a b) listed = true → (alt = true ∨ (Region.ready .any l.toArray listed).all (fun i => (a.heads ++ b.heads).contains i) = true) ∧
        ∃ m, a.len = m + 1 ∧ ∀ i ∈ a.heads ++ b.heads, wpOpIn (Fr r) n P l.toArray Q i (fun a' w' => (ex i = false → R w w') ∧ wpAnyR r n P .any l.toArray Q R ex m (listed.setIfInBounds i true) a' w') (actd e ds) w := by
      intro alt ho
      simp only [ordB, Bool.and_eq_true, Bool.or_eq_true] at ho
      obtain ⟨⟨⟨hal, hmk, hlen⟩, hoa⟩, hob⟩ := ho
      have hlen := Nat.eq_of_beq_eq_true hlen
      have hno : ∀ j, j + 1000 ∉ a.flat ++ b.flat := fun j hj => by
        have := List.all_eq_true.1 hmk _ hj
        rw [Nat.blt_eq] at this; omega
      have hex : ∀ j, ex j = true → listed.getD j true = true := fun j hj => by
        rcases hx1 j hj with h | h
        · exact h
        · exact (hno j h).elim
      obtain ⟨m, hm, ha⟩ := (iha listed N e w hcl (fun j hj => .inl (hex j hj)) (fun j hj => (hno j (List.mem_append_left _ hj)).elim) h.1 hq).2 hoa
      obtain ⟨m', hm', hb⟩ := (ihb listed N e w hcl (fun j hj => .inl (hex j hj)) (fun j hj => (hno j (List.mem_append_right _ hj)).elim) h.2 hq).2 hob
      obtain rfl : m = m' := by omega
      refine ⟨hal, m, hm, fun i hi => ?_⟩
      rcases List.mem_append.1 hi with hi | hi
      · exact ha i hi
      · exact hb i hi
    refine ⟨fun ho => ?_, fun ho => ?_⟩
    · obtain ⟨hal, m, hm, hall⟩ := key ho
      rcases hal with hal | hal
      · cases hal
      have hne : Region.ready .any l.toArray listed ≠ [] → wpAnyR r n P .any l.toArray Q R ex (m + 1) listed (actd e ds) w := fun hne =>
        ⟨fun h0 => (hne h0).elim, fun i hi => hall i (by have := List.all_eq_true.1 hal i hi; simpa using this)⟩
      show wpAnyR r n P .any l.toArray Q R ex a.len listed (actd e ds) w
      rw [hm]
      refine hne fun h0 => ?_
      -- the first head is ready
      have hoa : ordB .any l.toArray true a listed = true := by
        simp only [ordB, Bool.and_eq_true] at ho
        exact ho.1.2
      have : ∀ (t : Tr), ordB .any l.toArray true t listed = true → False := by
        intro t
        induction t with
        | nil => intro h; simp [ordB] at h
        | op i rs _ =>
          intro h
          simp only [ordB] at h
          split at h
          · simp only [Bool.and_eq_true] at h
            rw [h0] at h
            simp at h
          · simp at h
        | or x y ihx _ =>
          intro h
          simp only [ordB, Bool.and_eq_true] at h
          exact ihx h.1.2
      exact this a hoa
    · obtain ⟨_, m, hm, hall⟩ := key ho
      exact ⟨m, hm, hall⟩
end

/-! code -/
def havocK (e : Env) (junk : Nat → Value) : List Nat → (Env → Prop) → Prop
  | [], K => K e
  | t :: l, K => wrK e t (junk t) fun e => havocK e junk l K
theorem havocK_eq (junk : Nat → Value) : ∀ (l : List Nat) (e : Env) (K : Env → Prop), havocK e junk l K = K (havoc e junk l)
  | [], _, _ => rfl
  | t :: l, e, K => by
    unfold havocK havoc
    rw [wrK_eq, havocK_eq junk l]
def asgOK : List Oper → List Nat → (List Nat → Prop) → Prop
  | [], acc, K => K acc
  | o :: r, acc, K => match o.dst with
    | some d => asgOK r (d :: acc) K
    | none => asgOK r acc K
theorem asgOK_eq : ∀ (l : List Oper) (acc : List Nat) (K : List Nat → Prop), asgOK l acc K = K (asgOA l acc)
  | [], _, _ => rfl
  | o :: r, acc, K => by
    unfold asgOK asgOA
    cases o.dst with
    | none => exact asgOK_eq r acc K
    | some d => exact asgOK_eq r _ K
def asgK : Code → List Nat → (List Nat → Prop) → Prop
  | .region _ ops _, acc, K => asgOK ops.toList acc K
  | .seq a b, acc, K => asgK a acc fun acc => asgK b acc K
  | .cond _ x y, acc, K => asgK x acc fun acc => asgK y acc K
  | .block _ c, acc, K => asgK c acc K
  | .loop c, acc, K => asgK c acc K
  | .scope c, acc, K => asgK c acc K
  | _, acc, K => K acc
theorem asgK_eq : ∀ (c : Code) (acc : List Nat) (K : List Nat → Prop), asgK c acc K = K (asgA c acc) := by
  intro c
  induction c with
  | region i ops d => intro acc K; exact asgOK_eq ..
  | seq a b iha ihb => intro acc K; unfold asgK; rw [iha, ihb]; rfl
  | cond c x y ihx ihy => intro acc K; unfold asgK; rw [ihx, ihy]; rfl
  | block i c ih => intro acc K; exact ih acc K
  | loop c ih => intro acc K; exact ih acc K
  | scope c ih => intro acc K; exact ih acc K
  | _ => intro acc K; rfl
def headK : (vs : Car) → Env → Cur vs → World → Prop
  | [], _, J, w => J w
  | (t, s) :: l, e, J, w => rdK e t fun v => s.get v fun x => headK l e (J x) w
def headNK : (vs : Car) → Env → Cur vs → CurN vs → World → Nat → Prop
  | [], _, J, μ, w, m => J w ∧ μ w < m
  | (t, s) :: l, e, J, μ, w, m => rdK e t fun v => s.get v fun x => headNK l e (J x) (μ x) w m
def allK : (vs : Car) → Env → Cur vs → (Env → World → Prop) → Prop
  | [], e, J, K => ∀ w, J w → K e w
  | (t, s) :: l, e, J, K => allS s fun x => wrK e t (s.V x) fun e => allK l e (J x) K
def allNK : (vs : Car) → Env → Cur vs → CurN vs → (Env → World → Nat → Prop) → Prop
  | [], e, J, μ, K => ∀ w, J w → K e w (μ w)
  | (t, s) :: l, e, J, μ, K => allS s fun x => wrK e t (s.V x) fun e => allNK l e (J x) (μ x) K
theorem headK_eq : ∀ (vs : Car) (e : Env) (J : Cur vs) (w : World), headK vs e J w = headD vs e J w
  | [], _, _, _ => rfl
  | (t, s) :: l, e, J, w => by unfold headK headD; rw [rdK_eq]; simp only [headK_eq l]
theorem headNK_eq : ∀ (vs : Car) (e : Env) (J : Cur vs) (μ : CurN vs) (w : World) (m : Nat), headNK vs e J μ w m = headN vs e J μ w m
  | [], _, _, _, _, _ => rfl
  | (t, s) :: l, e, J, μ, w, m => by unfold headNK headN; rw [rdK_eq]; simp only [headNK_eq l]
theorem allK_eq : ∀ (vs : Car) (e : Env) (J : Cur vs) (K : Env → World → Prop), allK vs e J K = allD vs e J K
  | [], _, _, _ => rfl
  | (t, s) :: l, e, J, K => by unfold allK allD; simp only [wrK_eq, allK_eq l]
theorem allNK_eq : ∀ (vs : Car) (e : Env) (J : Cur vs) (μ : CurN vs) (K : Env → World → Nat → Prop), allNK vs e J μ K = allN vs e J μ K
  | [], _, _, _, _ => rfl
  | (t, s) :: l, e, J, μ, K => by unfold allNK allN; simp only [wrK_eq, allNK_eq l]
def condV (v : Value) (A B : Prop) : Prop :=
  match v with
  | .bool b => gd b true A B
  | _ => False

abbrev Ords := List (Nat × Tr)
def denC (P : Program) (τ : Tab) (ann cuts : Ann) (ords : Ords) : Code → EPost → Env → World → Prop
  | .skip, Q, e, w => Q .normal e w
  | .label _, Q, e, w => Q .normal e w
  | .ret, Q, e, w => Q .ret e w
  | .exit i, Q, e, w => Q (.exit i) e w
  | .region _ ops false, Q, e, w => opsC P τ ops.toList ops.toList (Q .normal) e w
  | .region i ops true, Q, e, w =>
    match lk ords i with
    | none => qopsC P τ ops.toList w ops.toList (fun e => ∀ w', Qt w w' → Q .normal e w') e
    | some l => ∀ w', Qt w w' → ∃ S : Nat → Prop, hopsC P τ ops.toList (Upd S) l (Q .normal) e w'
  | .seq a b, Q, e, w =>
    match (frId b).bind (lk cuts) with
    | none => denC P τ ann cuts ords a (thenE (denC P τ ann cuts ords b Q) Q) e w
    | some vs => ∃ J : Cur vs, denC P τ ann cuts ords a (thenE (fun e w => headK vs e J w) Q) e w ∧
        ∀ junk : Nat → Value, asgK a [] fun l => havocK e junk l fun e' => allK vs e' J fun e w => denC P τ ann cuts ords b Q e w
  | .cond c x y, Q, e, w => evK e c fun v => condV v (denC P τ ann cuts ords x Q e w) (denC P τ ann cuts ords y Q e w)
  | .block i c, Q, e, w => denC P τ ann cuts ords c (inBlk i Q) e w
  | .scope c, Q, e, w => denC P τ ann cuts ords c (noGoE Q) e w
  | .loop c, Q, e, w =>
    match (frId c).bind (lk ann) with
    | none => False
    | some vs => ∃ (J : Cur vs) (μ : CurN vs), headK vs e J w ∧
        ∀ junk : Nat → Value, asgK c [] fun l => havocK e junk l fun e' => allNK vs e' J μ fun e w m => denC P τ ann cuts ords c (thenE (fun e w => headNK vs e J μ w m) Q) e w
  | _, _, _, _ => False

section
variable {P : Program} {τ : Tab}
/-- every region that draws its order: the order of the text (where no loop over a function is under way), or the given ones, may stand for all -/
def lexOk (plain : Bool) (ords : Ords) : Code → Bool
  | .region i ops true => match lk ords i with
    | none => plain && Region.lexB .any ops
    | some l => ordOk ops l
  | .seq a b => lexOk plain ords a && lexOk plain ords b
  | .cond _ x y => lexOk plain ords x && lexOk plain ords y
  | .block _ c => lexOk plain ords c
  | .loop c => lexOk plain ords c
  | .scope c => plain && lexOk plain ords c
  | _ => true
theorem denC_sound (hτ : τ.Ok P) (ann cuts : Ann) (ords : Ords) {r : Option Nat} {n : Nat} {ds : List Deferred} : ∀ (c : Code) (Q : EPost) (e : Env) (w : World), lexOk r.isNone ords c = true → denC P τ ann cuts ords c Q e w → c.wpIn (Fr r) n P (lift (asg c) e ds Q) (actd e ds) w := by
  intro c
  induction c with
  | skip => intro Q e w _ h; exact wpIn_skip ⟨e, rfl, .refl _ _, h⟩
  | label l => intro Q e w _ h; exact wpIn_label ⟨e, rfl, .refl _ _, h⟩
  | ret => intro Q e w _ h; exact wpIn_ret ⟨e, rfl, .refl _ _, h⟩
  | exit i => intro Q e w _ h; exact wpIn_exit ⟨e, rfl, .refl _ _, h⟩
  | region i ops dr =>
    intro Q e w hl h
    obtain ⟨l⟩ := ops
    cases dr with
    | false =>
      refine wpIn_region_lit (opsC_sound hτ l _ l _ e w h fun e' w' hs hq => ⟨e', rfl, hs, hq⟩)
    | true =>
      unfold lexOk at hl
      unfold denC at h
      cases ho : lk ords i with
      | none =>
        rw [ho] at h hl
        simp only [Bool.and_eq_true] at hl
        cases r with
        | some r => cases hl.1
        | none =>
          refine wpIn_wide.2 (wp_region_quiet_lit hτ.mixed hl.2 (qopsC_sound hτ l w _ l _ e h fun e' hs hq => ?_))
          intro w' hw'
          exact ⟨e', rfl, hs, hq w' hw'⟩
      | some t =>
        rw [ho] at h hl
        simp only [ordOk, Bool.and_eq_true, beq_iff_eq] at hl
        obtain ⟨⟨⟨h1, hnd⟩, h2⟩, h3⟩ := hl
        obtain ⟨S, h⟩ := h (w.drewN 1) ⟨1, rfl⟩
        have hh := (hopsC_sound hτ (r := r) (n := n) (ds := ds) l (Upd S) (fun w => Upd.refl S w) (fun a b c h k => h.same k) h1 hnd
          (fun x a w => match x with | .normal => lift (asgO l) e ds Q .normal a w | _ => False) (fun _ _ _ h => h) (exB t.flat) t _ _ e (w.drewN 1) Closed.init
          (fun j hj => .inr (by simpa [exB] using hj)) (fun j hj => by simpa [exB] using hj) h fun e' w' hs hq => ⟨e', rfl, hs, hq⟩).1 h3
        rw [h2] at hh
        refine wpIn_mono (wpIn_region_any hτ.mixed (wpAny_of_R _ _ _ _ hh)) ?_
        intro x a w' hx
        cases x with
        | normal => exact hx
        | _ => exact hx.elim
  | seq a b iha ihb =>
    intro Q e w hl h
    simp only [lexOk, Bool.and_eq_true] at hl
    unfold denC at h
    split at h
    · refine wpIn_seq (wpIn_mono (iha _ e w hl.1 h) ?_)
      rintro x a' w' ⟨e', rfl, hs, hq⟩
      cases x with
      | normal =>
        refine wpIn_mono (ihb _ e' w' hl.2 hq) ?_
        exact lift_mono (hs.mono fun t ht => List.mem_append_left _ ht) (fun t ht => List.mem_append_right _ ht) fun _ _ _ h => h
      | _ => exact ⟨e', rfl, hs.mono fun t ht => List.mem_append_left _ ht, hq⟩
    · rename_i vs _
      obtain ⟨J, h1, h2⟩ := h
      refine wpIn_seq (wpIn_mono (iha _ e w hl.1 h1) ?_)
      rintro x a' w' ⟨e', rfl, hs, hq⟩
      cases x with
      | normal =>
        have h3 := h2 (rd e')
        rw [asgK_eq, havocK_eq, allK_eq] at h3
        have := allD_spec vs _ e' J _ w' (by rw [← headK_eq]; exact hq) h3
        rw [havoc_same _ e e' hs.len (fun t ht => hs.out t fun h => ht (mem_asgA a [] t (.inl h))), copyS_self] at this
        refine wpIn_mono (ihb _ e' w' hl.2 this) ?_
        exact lift_mono (hs.mono fun t ht => List.mem_append_left _ ht) (fun t ht => List.mem_append_right _ ht) fun _ _ _ h => h
      | _ => exact ⟨e', rfl, hs.mono fun t ht => List.mem_append_left _ ht, hq⟩
  | cond c x y ihx ihy =>
    intro Q e w hl h
    simp only [lexOk, Bool.and_eq_true] at hl
    unfold denC at h
    rw [evK_eq] at h
    unfold condV at h
    split at h
    · rename_i b hb
      refine wpIn_cond_split (t := b) (by rw [evd_eq]; exact hb) (fun ht => ?_) (fun ht => ?_)
      · refine wpIn_mono (ihx _ e w hl.1 ((gd_spec h).1 ht)) (lift_mono (.refl _ _) (fun t ht => List.mem_append_left _ ht) fun _ _ _ h => h)
      · refine wpIn_mono (ihy _ e w hl.2 ((gd_spec h).2 ht)) (lift_mono (.refl _ _) (fun t ht => List.mem_append_right _ ht) fun _ _ _ h => h)
    · exact h.elim
  | block i c ih =>
    intro Q e w hl h
    refine wpIn_block (wpIn_mono (ih _ e w hl h) ?_)
    rintro x a w' ⟨e', rfl, hs, hq⟩
    cases x with
    | exit j =>
      unfold inBlk at hq
      unfold Exit.inBlock
      simp only [] at hq ⊢
      split
      · rename_i hj; rw [if_pos hj] at hq; exact ⟨e', rfl, hs, hq⟩
      · rename_i hj; rw [if_neg hj] at hq; exact ⟨e', rfl, hs, hq⟩
    | _ => exact ⟨e', rfl, hs, hq⟩
  | scope c ih =>
    intro Q e w hl h
    simp only [lexOk, Bool.and_eq_true] at hl
    cases r with
    | some r => cases hl.1
    | none =>
      refine wpIn_wide.2 (wp_scope_straight (wpIn_wide.1 (wpIn_mono (ih _ e w hl.2 h) ?_)))
      rintro x a w' ⟨e', rfl, hs, hq⟩
      cases x with
      | goto j => exact hq.elim
      | _ => exact ⟨e', rfl, hs, hq⟩
  | loop c ih =>
    intro Q e w hl h
    unfold denC at h
    split at h
    · exact h.elim
    · rename_i vs _
      obtain ⟨J, μ, h0, h1⟩ := h
      rw [headK_eq] at h0
      refine wpIn_loop (fun a w => ∃ e', a = actd e' ds ∧ Same (asg c) e e' ∧ headD vs e' J w) (fun a w => meas vs a.tmps.toList μ w) ⟨e, rfl, .refl _ _, h0⟩ ?_
      rintro a w1 ⟨e1, rfl, hs1, hj⟩
      have h3 := h1 (rd e1)
      rw [asgK_eq, havocK_eq, allNK_eq] at h3
      have := allN_spec vs _ e1 J μ _ w1 hj h3
      rw [havoc_same _ e e1 hs1.len (fun t ht => hs1.out t fun h => ht (mem_asgA c [] t (.inl h))), copyS_self] at this
      refine wpIn_mono (ih _ e1 w1 hl this) ?_
      rintro x a w' ⟨e2, rfl, hs2, hq⟩
      cases x with
      | normal =>
        have hq' : headNK vs e2 J μ w' _ := hq
        rw [headNK_eq] at hq'
        obtain ⟨hd, hm⟩ := headN_spec vs e2 J μ w' _ hq'
        exact ⟨⟨e2, rfl, hs1.trans hs2, hd⟩, hm⟩
      | _ => exact ⟨e2, rfl, hs1.trans hs2, hq⟩
  | _ => intro Q e w _ h; exact h.elim

def resK (τ : Tab) (w : World) : List ResultVar → Env → List Value → (List Value → Prop) → Prop
  | [], _, acc, K => K acc.reverse
  | .tmp t :: r, e, acc, K => rdK e t fun v => resK τ w r e (v :: acc) K
  | .cell a t :: r, e, acc, K => rdK e a fun p => loadD τ t p w fun v => resK τ w r e (v :: acc) K
theorem resK_run (hτ : τ.Ok P) (w : World) : ∀ (rs : List ResultVar) (e : Env) (acc : List Value) (K : List Value → Prop), resK τ w rs e acc K →
    ∃ vs, K (acc.reverse ++ vs) ∧ (rs.mapM (m := Sem) fun
      | .tmp t => pure ((act e).tmps.getD t undef)
      | .cell a t => do loadVar t (← asAddr ((act e).tmps.getD a undef))).run P w = .ok vs w
  | [], e, acc, K, h => ⟨[], by simpa [resK] using h, rfl⟩
  | .tmp t :: r, e, acc, K, h => by
    unfold resK at h
    rw [rdK_eq] at h
    obtain ⟨vs, hk, hr⟩ := resK_run hτ w r e (rd e t :: acc) K h
    refine ⟨rd e t :: vs, by simpa using hk, ?_⟩
    simp only [List.mapM_cons, Sem.run_bind, Sem.run_pure, Result.andThen_ok, hr]
    simp [act, rd_eq]
  | .cell a t :: r, e, acc, K, h => by
    unfold resK at h
    rw [rdK_eq] at h
    obtain ⟨v, h, p, hx, hl⟩ := loadD_sound hτ t _ w _ h
    obtain ⟨vs, hk, hr⟩ := resK_run hτ w r e (v :: acc) K h
    refine ⟨v :: vs, by simpa using hk, ?_⟩
    have hx' : (act e).tmps.getD a undef = .pointer (some p) := by
      rw [← hx]; simp [act, rd_eq]
    have ha : asAddr ((act e).tmps.getD a undef) = (pure p : Sem Addr) := by rw [hx']; rfl
    have hlv : (loadVar t p).run P w = .ok v w := run_loadVar hτ t w p v hl
    simp only [List.mapM_cons, Sem.run_bind, ha, Sem.run_pure, Result.andThen_ok, hlv, hr]
def tupV (vs : List Value) (K : Value → Prop) : Prop :=
  match vs with
  | [v] => K v
  | vs => K (.tuple vs.toArray)
theorem tupV_eq (vs : List Value) (K : Value → Prop) : tupV vs K = K (match vs with | [v] => v | vs => .tuple vs.toArray) := by
  unfold tupV
  split <;> rfl
def endC (τ : Tab) (rs : List ResultVar) (R : Ending → World → Prop) : EPost
  | .normal, e, w => resK τ w rs e [] fun vs => tupV vs fun v => R (.returned v) w
  | .ret, e, w => resK τ w rs e [] fun vs => tupV vs fun v => R (.returned v) w
  | _, _, _ => False

/-- A CALL, by what has to be shown of its body. -/
theorem calls_denC (hτ : τ.Ok P) (ann cuts : Ann) (ords : Ords) (rs : List ResultVar) (e : Env) {f : FuncId} {fn : Func} {c : Code} {args : List Value} {w : World} {R : Ending → World → Prop} (n : Nat)
    (hf : P.funcs[f]? = some fn) (hb : fn.body = some c) (hl : lexOk true ords c = true) (hn : fn.ntmps = args.length + n) (hr : fn.results.toList = rs) (he : args ++ List.replicate n undef = e)
    (h : denC P τ ann cuts ords c (endC τ rs R) e w) : Calls P f args.toArray w R := by
  subst hr
  subst he
  refine calls_of_wp hf hb ?_
  have ha : (args.toArray ++ Array.replicate (fn.ntmps - args.toArray.size) undef) = (args ++ List.replicate n undef).toArray := by
    apply Array.ext'
    simp [hn]
  rw [ha]
  refine wp_mono (wpIn_wide (n := 0) |>.1 (denC_sound hτ ann cuts ords (r := none) (ds := []) c _ _ w hl h)) ?_
  rintro x a w' ⟨e, rfl, _, hq⟩
  have fin : (resK τ w' fn.results.toList e [] fun vs => tupV vs fun v => R (.returned v) w') → (act e).defers = [] ∧ ∃ v, (results fn (act e).tmps).run P w' = .ok v w' ∧ R (.returned v) w' := by
    intro hq
    obtain ⟨vs, hk, hr⟩ := resK_run (P := P) hτ w' _ e [] _ hq
    rw [tupV_eq] at hk
    refine ⟨rfl, _, ?_, hk⟩
    unfold results
    have hm : (fn.results.mapM (m := Sem) fun
        | .tmp t => pure ((act e).tmps.getD t undef)
        | .cell a t => do loadVar t (← asAddr ((act e).tmps.getD a undef))).run P w' = .ok vs.toArray w' := by
      rw [← Array.toArray_toList (xs := fn.results), List.mapM_toArray]
      simp only [Sem.run_map]
      exact (congrArg (fun r => Result.andThen r _) hr).trans rfl
    simp only [Sem.run_bind]
    refine (congrArg (fun r => Result.andThen r _) hm).trans ?_
    simp only [Result.andThen_ok, Sem.run_pure, List.reverse_nil, List.nil_append]
    congr 1
    match vs with
    | [] => rfl
    | [v] => rfl
    | a :: b :: r => simp
  cases x with
  | normal => exact fin hq
  | ret => exact fin hq
  | _ => exact hq.elim
end
end Go.Proofs.YtihnjjmbcbfheaaDoor.V
