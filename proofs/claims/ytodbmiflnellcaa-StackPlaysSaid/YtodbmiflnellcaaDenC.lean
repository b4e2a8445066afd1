/-
  'den' is enough: a piece of code, a call.
-/
import Derived.Test.YtodbmiflnellcaaDenO
namespace Go.Proofs.Ytodbmiflnellcaa.V
open Go Go.RowKit

section
variable {P : Program} {τ : Tab}

theorem Qt.refl (w : World) : Qt w w := ⟨0, rfl⟩
theorem Qt.trans {a b c : World} (h : Qt a b) (k : Qt b c) : Qt a c := by
  obtain ⟨n, rfl⟩ := h
  obtain ⟨m, rfl⟩ := k
  exact ⟨n + m, by simp⟩
theorem Qt.cell {w w' : World} (h : Qt w w') (p : Addr) : w'.cell? p = w.cell? p := by obtain ⟨n, rfl⟩ := h; rfl
theorem Qt.frozen {w w' : World} (h : Qt w w') (p : Addr) : w'.frozen? p = w.frozen? p := by obtain ⟨n, rfl⟩ := h; rfl
theorem Qt.heap {w w' : World} (h : Qt w w') : w'.heap = w.heap := by obtain ⟨n, rfl⟩ := h; rfl
theorem cellsAt.qt {w w' : World} (h : Qt w w') (p : Addr) : ∀ (vs : List Value) (i : Nat), cellsAt w p i vs → cellsAt w' p i vs
  | [], _, _ => trivial
  | _ :: r, i, hc => ⟨(h.cell _).trans hc.1, cellsAt.qt h p r (i + 1) hc.2⟩

theorem qopD_sound (hτ : τ.Ok P) (o : Oper) (e : Env) (w : World) (K : Value → Prop) (next : Act → Prop)
    (hn : ∀ v, K v → next (act (put e o.dst v))) (h : qopD P τ o.op o.type e w K) : o.quiet P (act e) (fun w' => Qt w w') next := by
  have pur : pureD τ o.op e K → o.quiet P (act e) (fun w' => Qt w w') next := fun h => by
    obtain ⟨v, hk, hr⟩ := pureD_sound hτ o e _ h
    refine ⟨v, fun w' _ => ?_, by rw [put_eq]; exact hn v hk⟩
    unfold Oper.quietAt
    rw [ev_eq, hr w']
    exact ⟨rfl, rfl⟩
  unfold qopD at h
  split at h
  · rename_i t x ho
    obtain ⟨v, hk, p, hx, hl⟩ := loadD_sound hτ _ _ _ _ h
    refine ⟨v, fun w' hw' => ?_, by rw [put_eq]; exact hn v hk⟩
    unfold Oper.quietAt
    have hl' : (loadVar t p).run P w' = .ok v w' := run_loadVar hτ t w' p v (by
      rcases hl with ⟨b, h1, h2, h3⟩ | ⟨n, b, z, vs, h1, h2, h3, h4, h5⟩
      · exact .inl ⟨b, h1, h2, (hw'.cell p).trans h3⟩
      · exact .inr ⟨n, b, z, vs, h1, h2, h3, cellsAt.qt hw' p vs 0 h4, h5⟩)
    rw [ev_eq, exec_load o e t x ho p hx w' v hl']
    exact ⟨rfl, rfl⟩
  · rename_i c ho
    split at h
    · rename_i f hc
      unfold callQ at h
      split at h
      · rename_i f' fi ca hf
        obtain ⟨hi, h⟩ := h
        have : ∃ v, (∀ w', Qt w w' → Calls P f' (fi.toList ++ (c.args.toList.map (ev e) ++ ca.toList)).toArray w' fun e w'' => e = .returned v ∧ Qt w' w'') ∧ K v := by
          split at h
          · exact Sh.ex_spec _ _ h
          · exact h
        obtain ⟨v, hcall, hk⟩ := this
        refine ⟨v, fun w' hw' => ?_, by rw [put_eq]; exact hn v hk⟩
        unfold Oper.quietAt
        rw [ev_eq, exec_call hτ o e c ho f hc f' fi ca hf hi w']
        exact ⟨rfl, (hcall w' hw').mono fun e w'' ⟨h1, h2⟩ => ⟨h1, hw'.trans h2⟩⟩
      · exact h.elim
    · exact pur (by rw [ho]; exact h)
  · rename_i s d x ho
    unfold convQ at h
    split at h
    · rename_i k n hx
      exact pur (by rw [ho]; simp only [pureD, hx]; exact h)
    · have : ∃ v, (∀ w', Qt w w' → Runs P (convert s d (ev e x)) w' v w') ∧ K v := by
        unfold quietRun at h
        split at h
        · exact Sh.ex_spec _ _ h
        · exact h
      obtain ⟨v, hr, hk⟩ := this
      refine ⟨v, fun w' hw' => ?_, by rw [put_eq]; exact hn v hk⟩
      unfold Oper.quietAt
      have h1 : (execOp (ev e) o).run P w' = .ok (.value v) w' := by
        have := hr w' hw'
        unfold Runs at this
        simp [execOp, ho, this]
      rw [ev_eq, h1]
      exact ⟨rfl, rfl⟩
  · exact pur h
theorem qopsD_sound (hτ : τ.Ok P) (all : List Oper) (w : World) (Q : Act → Prop) : ∀ (l : List Oper) (N : Env → Prop) (e : Env),
    qopsD P τ all w l N e → (∀ e', Same (asgO l) e e' → N e' → Q (act e')) → wpQuiet P all.toArray (fun w' => Qt w w') Q l (act e) := by
  intro l
  induction l with
  | nil => intro N e h hq; exact hq e (.refl _ _) h
  | cons o r ih =>
    intro N e h hq
    unfold qopsD at h
    have step : ∀ v, Same (asgO (o :: r)) e (put e o.dst v) := fun v => .put e o.dst v fun x hx => (asgO_cons o r x).1 hx
    have rest : ∀ v, qopsD P τ all w r N (put e o.dst v) → wpQuiet P all.toArray (fun w' => Qt w w') Q r (act (put e o.dst v)) := fun v h' =>
      ih N _ h' fun e' hs hN => hq e' ((step v).trans (hs.mono fun t ht => (asgO_cons o r t).2 ht)) hN
    rcases guardD_spec all o e _ _ h with ⟨hw, h⟩ | ⟨hw, h⟩
    · unfold wpQuiet
      rw [if_pos hw]
      exact qopD_sound hτ o e w _ _ rest h
    · unfold wpQuiet
      rw [hw]
      simp only [Bool.false_eq_true, if_false, put_eq]
      exact rest _ h

/-! ### what a loop carries -/
def Sh.of : (s : Sh) → Value → s.T
  | .int _, .int _ n => n
  | .int _, _ => (0 : Int)
  | .bool, .bool b => b
  | .bool, _ => false
  | .str, .string b => b
  | .str, _ => (default : ByteArray)
  | .ptr, .pointer a => a
  | .ptr, _ => (none : Option Addr)
  | .slice, .slice a n c => (⟨a, n, c⟩ : Sl)
  | .slice, _ => (⟨none, 0, 0⟩ : Sl)
  | .map, .map r => r
  | .map, _ => (none : Option Nat)
  | .raw, v => v
  | .agg _, v => v
  | .tup _, v => v
theorem Sh.get_of (s : Sh) (v : Value) (K : s.T → Prop) (h : s.get v K) : v = s.V (s.of v) ∧ K (s.of v) := by
  cases s <;> cases v <;> simp only [Sh.get] at h <;> first | exact h.elim | skip
  all_goals first
    | exact ⟨rfl, h⟩
    | (obtain ⟨rfl, h⟩ := h; exact ⟨rfl, h⟩)
def meas : (vs : Car) → Env → CurN vs → World → Nat
  | [], _, μ, w => μ w
  | (t, s) :: l, e, μ, w => meas l e (μ (s.of (rd e t))) w
def copyS : Car → Env → Env → Env
  | [], e0, _ => e0
  | (t, _) :: l, e0, e => copyS l (wr e0 t (rd e t)) e
theorem copyS_self : ∀ (vs : Car) (e : Env), copyS vs e e = e
  | [], _ => rfl
  | (t, s) :: l, e => by
    unfold copyS
    rw [wr_rd rfl]
    exact copyS_self l e
theorem allS_spec (s : Sh) (K : s.T → Prop) (h : allS s K) (x : s.T) : K x := by
  cases s <;> exact h x
theorem allD_spec : ∀ (vs : Car) (e0 e : Env) (J : Cur vs) (K : Env → World → Prop) (w : World), headD vs e J w → allD vs e0 J K → K (copyS vs e0 e) w
  | [], _, _, _, _, w, hj, h => h w hj
  | (t, s) :: l, e0, e, J, K, w, hj, h => by
    obtain ⟨hv, hj⟩ := Sh.get_of s _ _ hj
    unfold copyS
    rw [hv]
    exact allD_spec l _ e _ K w hj (allS_spec s _ h _)
theorem allN_spec : ∀ (vs : Car) (e0 e : Env) (J : Cur vs) (μ : CurN vs) (K : Env → World → Nat → Prop) (w : World), headD vs e J w → allN vs e0 J μ K → K (copyS vs e0 e) w (meas vs e μ w)
  | [], _, _, _, _, _, w, hj, h => h w hj
  | (t, s) :: l, e0, e, J, μ, K, w, hj, h => by
    obtain ⟨hv, hj⟩ := Sh.get_of s _ _ hj
    unfold copyS meas
    have := allN_spec l (wr e0 t (s.V (s.of (rd e t)))) e _ _ K w hj (allS_spec s _ h _)
    rw [← hv] at this
    exact this
theorem headN_spec : ∀ (vs : Car) (e : Env) (J : Cur vs) (μ : CurN vs) (w : World) (m : Nat), headN vs e J μ w m → headD vs e J w ∧ meas vs e μ w < m
  | [], _, _, _, _, _, h => h
  | (t, s) :: l, e, J, μ, w, m, h => by
    unfold headN at h
    obtain ⟨hv, h⟩ := Sh.get_of s _ _ h
    have ih := headN_spec l e _ _ w m h
    refine ⟨?_, ih.2⟩
    unfold headD
    have key : ∀ (K : s.T → Prop), K (s.of (rd e t)) → s.get (rd e t) K := by
      intro K hk
      generalize rd e t = v at *
      have hg := h
      clear ih
      cases s <;> cases v <;> first | exact hk | exact ⟨by injection hv, hk⟩ | (exfalso; injection hv)
    exact key _ ih.1
theorem havoc_same : ∀ (l : List Nat) (e e' : Env), e'.length = e.length → (∀ t, t ∉ l → rd e' t = rd e t) → havoc e (rd e') l = e'
  | [], e, e', hl, h => env_ext hl.symm fun t => (h t (by simp)).symm
  | t :: l, e, e', hl, h => by
    unfold havoc
    refine havoc_same l _ e' (by rw [length_wr]; exact hl) fun u hu => ?_
    by_cases ht : u = t
    · subst ht
      rw [rd_eq, rd_eq, wr_eq]
      simp only [List.getD_eq_getElem?_getD, List.getElem?_set]
      simp only [if_true]
      split
      · simp [rd_eq]
      · rename_i hlt
        rw [List.getElem?_eq_none (by omega)]
    · rw [rd_wr _ _ _ _ ht]
      exact h u (by simp [ht, hu])

/-! ### code -/
def lift (l : List Nat) (e0 : Env) (Q : EPost) : Exit → Act → World → Prop := fun x a w => ∃ e, a = act e ∧ Same l e0 e ∧ Q x e w
theorem lift_mono {l l' : List Nat} {e0 e1 : Env} {Q Q' : EPost} (h0 : Same l' e1 e0) (hl : ∀ t, t ∈ l → t ∈ l') (hq : ∀ x e w, Q x e w → Q' x e w) :
    ∀ x a w, lift l e0 Q x a w → lift l' e1 Q' x a w := fun x a w ⟨e, ha, hs, h⟩ => ⟨e, ha, h0.trans (hs.mono hl), hq x e w h⟩

/-- every region that draws its order lets the order of the text stand for all -/
def lexAll : Code → Bool
  | .region _ ops true => Region.lexB .any ops
  | .seq a b => lexAll a && lexAll b
  | .cond _ x y => lexAll x && lexAll y
  | .block _ c => lexAll c
  | .loop c => lexAll c
  | .scope c => lexAll c
  | _ => true

theorem den_sound (hτ : τ.Ok P) (ann cuts : Ann) : ∀ (c : Code) (Q : EPost) (e : Env) (w : World), lexAll c = true → den P τ ann cuts c Q e w → c.wp P (lift (asg c) e Q) (act e) w := by
  intro c
  induction c with
  | skip => intro Q e w _ h; exact wp_skip ⟨e, rfl, .refl _ _, h⟩
  | label l => intro Q e w _ h; exact wp_label ⟨e, rfl, .refl _ _, h⟩
  | ret => intro Q e w _ h; exact wp_ret ⟨e, rfl, .refl _ _, h⟩
  | exit i => intro Q e w _ h; exact wp_exit ⟨e, rfl, .refl _ _, h⟩
  | region i ops dr =>
    intro Q e w hl h
    obtain ⟨l⟩ := ops
    cases dr with
    | false =>
      refine wp_region_lit (opsD_sound hτ l _ l _ e w h fun e' w' hs hq => ⟨e', rfl, hs, hq⟩)
    | true =>
      refine wp_region_quiet_lit hτ.mixed hl (qopsD_sound hτ l w _ l _ e h fun e' hs hq => ?_)
      intro w' hw'
      exact ⟨e', rfl, hs, hq w' hw'⟩
  | seq a b iha ihb =>
    intro Q e w hl h
    simp only [lexAll, Bool.and_eq_true] at hl
    unfold den at h
    split at h
    · refine wp_seq (wp_mono (iha _ e w hl.1 h) ?_)
      rintro x a' w' ⟨e', rfl, hs, hq⟩
      cases x with
      | normal =>
        refine wp_mono (ihb _ e' w' hl.2 hq) ?_
        exact lift_mono (hs.mono fun t ht => List.mem_append_left _ ht) (fun t ht => List.mem_append_right _ ht) fun _ _ _ h => h
      | _ => exact ⟨e', rfl, hs.mono fun t ht => List.mem_append_left _ ht, hq⟩
    · rename_i vs _
      obtain ⟨J, h1, h2⟩ := h
      refine wp_seq (wp_mono (iha _ e w hl.1 h1) ?_)
      rintro x a' w' ⟨e', rfl, hs, hq⟩
      cases x with
      | normal =>
        have := allD_spec vs _ e' J _ w' hq (h2 (rd e'))
        rw [havoc_same _ e e' hs.len (fun t ht => hs.out t fun h => ht (mem_asgA a [] t (.inl h))), copyS_self] at this
        refine wp_mono (ihb _ e' w' hl.2 this) ?_
        exact lift_mono (hs.mono fun t ht => List.mem_append_left _ ht) (fun t ht => List.mem_append_right _ ht) fun _ _ _ h => h
      | _ => exact ⟨e', rfl, hs.mono fun t ht => List.mem_append_left _ ht, hq⟩
  | cond c x y ihx ihy =>
    intro Q e w hl h
    simp only [lexAll, Bool.and_eq_true] at hl
    unfold den at h
    split at h
    · rename_i b hb
      refine wp_cond_split (t := b) (by rw [ev_eq]; exact hb) (fun ht => ?_) (fun ht => ?_)
      · refine wp_mono (ihx _ e w hl.1 ((gd_spec h).1 ht)) (lift_mono (.refl _ _) (fun t ht => List.mem_append_left _ ht) fun _ _ _ h => h)
      · refine wp_mono (ihy _ e w hl.2 ((gd_spec h).2 ht)) (lift_mono (.refl _ _) (fun t ht => List.mem_append_right _ ht) fun _ _ _ h => h)
    · exact h.elim
  | block i c ih =>
    intro Q e w hl h
    refine wp_block (wp_mono (ih _ e w hl h) ?_)
    rintro x a w' ⟨e', rfl, hs, hq⟩
    cases x with
    | exit j =>
      unfold inBlk at hq
      unfold Exit.inBlock
      simp only [] at hq ⊢
      split
      · rename_i hj; rw [if_pos hj] at hq; exact ⟨e', rfl, hs, hq⟩
      · rename_i hj; rw [if_neg hj] at hq; exact ⟨e', rfl, hs, hq⟩
    | _ => exact ⟨e', rfl, hs, hq⟩
  | scope c ih =>
    intro Q e w hl h
    refine wp_scope_straight (wp_mono (ih _ e w hl h) ?_)
    rintro x a w' ⟨e', rfl, hs, hq⟩
    cases x with
    | goto j => exact hq.elim
    | _ => exact ⟨e', rfl, hs, hq⟩
  | loop c ih =>
    intro Q e w hl h
    unfold den at h
    split at h
    · exact h.elim
    · rename_i vs _
      obtain ⟨J, μ, h0, h1⟩ := h
      refine wp_loop (fun a w => ∃ e', a = act e' ∧ Same (asg c) e e' ∧ headD vs e' J w) (fun a w => meas vs a.tmps.toList μ w) ⟨e, rfl, .refl _ _, h0⟩ ?_
      rintro a w1 ⟨e1, rfl, hs1, hj⟩
      have := allN_spec vs _ e1 J μ _ w1 hj (h1 (rd e1))
      rw [havoc_same _ e e1 hs1.len (fun t ht => hs1.out t fun h => ht (mem_asgA c [] t (.inl h))), copyS_self] at this
      refine wp_mono (ih _ e1 w1 hl this) ?_
      rintro x a w' ⟨e2, rfl, hs2, hq⟩
      cases x with
      | normal =>
        obtain ⟨hd, hm⟩ := headN_spec vs e2 J μ w' _ hq
        exact ⟨⟨e2, rfl, hs1.trans hs2, hd⟩, hm⟩
      | _ => exact ⟨e2, rfl, hs1.trans hs2, hq⟩
  | _ => intro Q e w _ h; exact h.elim

theorem resD_run : ∀ (rs : List ResultVar) (e : Env) (acc : List Value) (K : List Value → Prop) (w : World), resD rs e acc K →
    ∃ vs, K (acc.reverse ++ vs) ∧ (rs.mapM (m := Sem) fun
      | .tmp t => pure ((act e).tmps.getD t undef)
      | .cell a t => do loadVar t (← asAddr ((act e).tmps.getD a undef))).run P w = .ok vs w
  | [], e, acc, K, w, h => ⟨[], by simpa [resD] using h, rfl⟩
  | .tmp t :: r, e, acc, K, w, h => by
    obtain ⟨vs, hk, hr⟩ := resD_run r e (rd e t :: acc) K w h
    refine ⟨rd e t :: vs, by simpa using hk, ?_⟩
    simp only [List.mapM_cons, Sem.run_bind, Sem.run_pure, Result.andThen_ok, hr]
    simp [act, rd_eq]
  | .cell a t :: r, e, acc, K, w, h => h.elim

/-- A CALL, by what has to be shown of its body. -/
theorem calls_den (hτ : τ.Ok P) (ann cuts : Ann) {f : FuncId} {fn : Func} {c : Code} {args : List Value} {w : World} {R : Ending → World → Prop} (n : Nat)
    (hf : P.funcs[f]? = some fn) (hb : fn.body = some c) (hl : lexAll c = true) (hn : fn.ntmps = args.length + n)
    (h : den P τ ann cuts c (endD fn.results.toList fun v w' => R (.returned v) w') (args ++ List.replicate n undef) w) : Calls P f args.toArray w R := by
  refine calls_of_wp hf hb ?_
  have ha : (args.toArray ++ Array.replicate (fn.ntmps - args.toArray.size) undef) = (args ++ List.replicate n undef).toArray := by
    apply Array.ext'
    simp [hn]
  rw [ha]
  refine wp_mono (den_sound hτ ann cuts c _ _ w hl h) ?_
  rintro x a w' ⟨e, rfl, _, hq⟩
  have fin : (resD fn.results.toList e [] fun vs => R (.returned (match vs with | [v] => v | vs => .tuple vs.toArray)) w') → (act e).defers = [] ∧ ∃ v, (results fn (act e).tmps).run P w' = .ok v w' ∧ R (.returned v) w' := by
    intro hq
    obtain ⟨vs, hk, hr⟩ := resD_run (P := P) _ e [] _ w' hq
    refine ⟨rfl, _, ?_, hk⟩
    unfold results
    have hm : (fn.results.mapM (m := Sem) fun
        | .tmp t => pure ((act e).tmps.getD t undef)
        | .cell a t => do loadVar t (← asAddr ((act e).tmps.getD a undef))).run P w' = .ok vs.toArray w' := by
      rw [← Array.toArray_toList (xs := fn.results), List.mapM_toArray]
      simp only [Sem.run_map, hr, Result.andThen_ok]
    simp only [Sem.run_bind]
    refine (congrArg (fun r => Result.andThen r _) hm).trans ?_
    simp only [Result.andThen_ok, Sem.run_pure, List.reverse_nil, List.nil_append]
    congr 1
    match vs with
    | [] => rfl
    | [v] => rfl
    | a :: b :: r => simp
  cases x with
  | normal => exact fin hq
  | ret => exact fin hq
  | _ => exact hq.elim
end
end Go.Proofs.Ytodbmiflnellcaa.V
