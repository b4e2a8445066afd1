/-
  'den' is enough: a piece of code, a call.
-/
import Derived.Test.YtihnjjmbcbfheaaDoorDenO
namespace Go.Proofs.YtihnjjmbcbfheaaDoor.V
open Go Go.RowKit
set_option linter.unusedVariables false
set_option linter.unusedSimpArgs false

section
variable {P : Program} {τ : Tab}

theorem Qt.refl (w : World) : Qt w w := ⟨0, rfl⟩
theorem Qt.trans {a b c : World} (h : Qt a b) (k : Qt b c) : Qt a c := by
  obtain ⟨n, rfl⟩ := h
  obtain ⟨m, rfl⟩ := k
  exact ⟨n + m, by simp⟩
theorem Qt.cell {w w' : World} (h : Qt w w') (p : Addr) : w'.cell? p = w.cell? p := by obtain ⟨n, rfl⟩ := h; rfl
theorem Qt.frozen {w w' : World} (h : Qt w w') (p : Addr) : w'.frozen? p = w.frozen? p := by obtain ⟨n, rfl⟩ := h; rfl
theorem Qt.heap {w w' : World} (h : Qt w w') : w'.heap = w.heap := by obtain ⟨n, rfl⟩ := h; rfl
theorem cellsAt.qt {w w' : World} (h : Qt w w') (p : Addr) : ∀ (vs : List Value) (i : Nat), cellsAt w p i vs → cellsAt w' p i vs
  | [], _, _ => trivial
  | _ :: r, i, hc => ⟨(h.cell _).trans hc.1, cellsAt.qt h p r (i + 1) hc.2⟩

abbrev actd (e : Env) (ds : List Deferred) : Act := ⟨e.toArray, ds⟩
theorem evd_eq (e : Env) (ds : List Deferred) : (actd e ds).eval = ev e := ev_eq e
theorem putd_eq (e : Env) (ds : List Deferred) (d : Option Nat) (v : Value) : (actd e ds).put d v = actd (put e d v) ds := by
  cases d with
  | none => rfl
  | some d => simp [Act.put, put, wr_eq]
theorem qopD_sound (hτ : τ.Ok P) (o : Oper) (e : Env) (ds : List Deferred) (w : World) (K : Value → Prop) (next : Act → Prop)
    (hn : ∀ v, K v → next (actd (put e o.dst v) ds)) (h : qopD P τ o.op o.type e w K) : o.quiet P (actd e ds) (fun w' => Qt w w') next := by
  have pur : pureD τ o.op e K → o.quiet P (actd e ds) (fun w' => Qt w w') next := fun h => by
    obtain ⟨v, hk, hr⟩ := pureD_sound hτ o e _ h
    refine ⟨v, fun w' _ => ?_, by rw [putd_eq]; exact hn v hk⟩
    unfold Oper.quietAt
    rw [evd_eq, hr w']
    exact ⟨rfl, rfl⟩
  unfold qopD at h
  split at h
  · rename_i t x ho
    obtain ⟨v, hk, p, hx, hl⟩ := loadD_sound hτ _ _ _ _ h
    refine ⟨v, fun w' hw' => ?_, by rw [putd_eq]; exact hn v hk⟩
    unfold Oper.quietAt
    have hl' : (loadVar t p).run P w' = .ok v w' := run_loadVar hτ t w' p v (by
      rcases hl with ⟨b, h1, h2, h3⟩ | ⟨n, b, z, vs, h1, h2, h3, h4, h5⟩
      · exact .inl ⟨b, h1, h2, (hw'.cell p).trans h3⟩
      · exact .inr ⟨n, b, z, vs, h1, h2, h3, cellsAt.qt hw' p vs 0 h4, h5⟩)
    rw [evd_eq, exec_load o e t x ho p hx w' v hl']
    exact ⟨rfl, rfl⟩
  · rename_i c ho
    split at h
    · rename_i f hc
      unfold callQ at h
      split at h
      · rename_i f' fi ca hf
        obtain ⟨hi, h⟩ := h
        have : ∃ v, (∀ w', Qt w w' → Calls P f' (fi.toList ++ (c.args.toList.map (ev e) ++ ca.toList)).toArray w' fun e w'' => e = .returned v ∧ Qt w' w'') ∧ K v := by
          split at h
          · exact Sh.ex_spec _ _ h
          · exact h
        obtain ⟨v, hcall, hk⟩ := this
        refine ⟨v, fun w' hw' => ?_, by rw [putd_eq]; exact hn v hk⟩
        unfold Oper.quietAt
        rw [evd_eq, exec_call hτ o e c ho f hc f' fi ca hf hi w']
        exact ⟨rfl, (hcall w' hw').mono fun e w'' ⟨h1, h2⟩ => ⟨h1, hw'.trans h2⟩⟩
      · exact h.elim
    · exact pur (by rw [ho]; exact h)
  · rename_i s d x ho
    unfold convQ at h
    split at h
    · rename_i k n hx
      exact pur (by rw [ho]; simp only [pureD, hx]; exact h)
    · have : ∃ v, (∀ w', Qt w w' → Runs P (convert s d (ev e x)) w' v w') ∧ K v := by
        unfold quietRun at h
        split at h
        · exact Sh.ex_spec _ _ h
        · exact h
      obtain ⟨v, hr, hk⟩ := this
      refine ⟨v, fun w' hw' => ?_, by rw [putd_eq]; exact hn v hk⟩
      unfold Oper.quietAt
      have h1 : (execOp (ev e) o).run P w' = .ok (.value v) w' := by
        have := hr w' hw'
        unfold Runs at this
        simp [execOp, ho, this]
      rw [evd_eq, h1]
      exact ⟨rfl, rfl⟩
  · exact pur h
/-! ### what a loop carries -/
def Sh.of : (s : Sh) → Value → s.T
  | .int _, .int _ n => n
  | .int _, _ => (0 : Int)
  | .bool, .bool b => b
  | .bool, _ => false
  | .str, .string b => b
  | .str, _ => (default : ByteArray)
  | .ptr, .pointer a => a
  | .ptr, _ => (none : Option Addr)
  | .slice, .slice a n c => (⟨a, n, c⟩ : Sl)
  | .slice, _ => (⟨none, 0, 0⟩ : Sl)
  | .map, .map r => r
  | .map, _ => (none : Option Nat)
  | .raw, v => v
  | .agg _, v => v
  | .tup _, v => v
  | .clo _ _, v => v
  | .fnv _ _, v => v
theorem Sh.get_of (s : Sh) (v : Value) (K : s.T → Prop) (h : s.get v K) : v = s.V (s.of v) ∧ K (s.of v) := by
  cases s <;> cases v <;> simp only [Sh.get] at h <;> first | exact h.elim | skip
  all_goals first
    | exact ⟨rfl, h⟩
    | (obtain ⟨rfl, h⟩ := h; exact ⟨rfl, h⟩)
def meas : (vs : Car) → Env → CurN vs → World → Nat
  | [], _, μ, w => μ w
  | (t, s) :: l, e, μ, w => meas l e (μ (s.of (rd e t))) w
def copyS : Car → Env → Env → Env
  | [], e0, _ => e0
  | (t, _) :: l, e0, e => copyS l (wr e0 t (rd e t)) e
theorem copyS_self : ∀ (vs : Car) (e : Env), copyS vs e e = e
  | [], _ => rfl
  | (t, s) :: l, e => by
    unfold copyS
    rw [wr_rd rfl]
    exact copyS_self l e
theorem allS_spec (s : Sh) (K : s.T → Prop) (h : allS s K) (x : s.T) : K x := by
  cases s <;> exact h x
theorem allD_spec : ∀ (vs : Car) (e0 e : Env) (J : Cur vs) (K : Env → World → Prop) (w : World), headD vs e J w → allD vs e0 J K → K (copyS vs e0 e) w
  | [], _, _, _, _, w, hj, h => h w hj
  | (t, s) :: l, e0, e, J, K, w, hj, h => by
    obtain ⟨hv, hj⟩ := Sh.get_of s _ _ hj
    unfold copyS
    rw [hv]
    exact allD_spec l _ e _ K w hj (allS_spec s _ h _)
theorem allN_spec : ∀ (vs : Car) (e0 e : Env) (J : Cur vs) (μ : CurN vs) (K : Env → World → Nat → Prop) (w : World), headD vs e J w → allN vs e0 J μ K → K (copyS vs e0 e) w (meas vs e μ w)
  | [], _, _, _, _, _, w, hj, h => h w hj
  | (t, s) :: l, e0, e, J, μ, K, w, hj, h => by
    obtain ⟨hv, hj⟩ := Sh.get_of s _ _ hj
    unfold copyS meas
    have := allN_spec l (wr e0 t (s.V (s.of (rd e t)))) e _ _ K w hj (allS_spec s _ h _)
    rw [← hv] at this
    exact this
theorem headN_spec : ∀ (vs : Car) (e : Env) (J : Cur vs) (μ : CurN vs) (w : World) (m : Nat), headN vs e J μ w m → headD vs e J w ∧ meas vs e μ w < m
  | [], _, _, _, _, _, h => h
  | (t, s) :: l, e, J, μ, w, m, h => by
    unfold headN at h
    obtain ⟨hv, h⟩ := Sh.get_of s _ _ h
    have ih := headN_spec l e _ _ w m h
    refine ⟨?_, ih.2⟩
    unfold headD
    have key : ∀ (K : s.T → Prop), K (s.of (rd e t)) → s.get (rd e t) K := by
      intro K hk
      generalize rd e t = v at *
      have hg := h
      clear ih
      cases s <;> cases v <;> first | exact hk | exact ⟨by injection hv, hk⟩ | (exfalso; injection hv)
    exact key _ ih.1
theorem havoc_same : ∀ (l : List Nat) (e e' : Env), e'.length = e.length → (∀ t, t ∉ l → rd e' t = rd e t) → havoc e (rd e') l = e'
  | [], e, e', hl, h => env_ext hl.symm fun t => (h t (by simp)).symm
  | t :: l, e, e', hl, h => by
    unfold havoc
    refine havoc_same l _ e' (by rw [length_wr]; exact hl) fun u hu => ?_
    by_cases ht : u = t
    · subst ht
      rw [rd_eq, rd_eq, wr_eq]
      simp only [List.getD_eq_getElem?_getD, List.getElem?_set]
      simp only [if_true]
      split
      · simp [rd_eq]
      · rename_i hlt
        rw [List.getElem?_eq_none (by omega)]
    · rw [rd_wr _ _ _ _ ht]
      exact h u (by simp [ht, hu])

/-! ### the fence of all walks -/
abbrev Fr (r : Option Nat) : Fence := { Fence.wide with round := r }
theorem roomR (r : Option Nat) (n : Nat) : (Fr r).room n := fun _ h => by simp [Fence.wide] at h
theorem callsIn_r {r : Option Nat} {n : Nat} {f : FuncId} {args : Array Value} {w : World} {R : Ending → World → Prop} (h : Calls P f args w R) : CallsIn (Fr r) n P f args w R :=
  ⟨trivial, fun cs _ => (callsIn_wide (n := n) |>.2 h).2 cs (room_wide _)⟩
theorem roundIn_r {r : Option Nat} {n m : Nat} {l : Nat} {f : FuncId} {tmps : Array Value} {assign body : Code} {w : World} {R : Ending → World → Prop} (h : RoundIn Fence.wide m P l f tmps assign body w R) : RoundIn (Fr r) n P l f tmps assign body w R :=
  ⟨trivial, fun c cs _ => h.2 c cs (room_wide _)⟩
theorem roundIn_w {r : Option Nat} {n m : Nat} {l : Nat} {f : FuncId} {tmps : Array Value} {assign body : Code} {w : World} {R : Ending → World → Prop} (h : RoundIn (Fr r) n P l f tmps assign body w R) : RoundIn Fence.wide m P l f tmps assign body w R :=
  ⟨trivial, fun c cs _ => h.2 c cs (roomR r _)⟩
theorem semAt_run {r : Option Nat} {ρ : Operand → Value} {o : Oper} {w w' : World} {nx : Next} (h : (execOp ρ o).run P w = .ok nx w') (hn : ∀ d, nx ≠ .defer d) : (o.semAt r ρ).run P w = .ok nx w' := by
  by_cases hd : ∃ c, o.op = .defer c
  · obtain ⟨c, hc⟩ := hd
    exfalso
    have : ∀ res, (execOp ρ o).run P w = res → ∀ nx w', res = .ok nx w' → ∃ d, nx = .defer d := by
      intro res hres nx w' he
      simp only [execOp, hc] at hres
      rw [he] at hres
      simp only [Sem.run_bind] at hres
      cases hr : (resolve ρ c o.type).run P w with
      | ok d w1 =>
        rw [hr] at hres
        simp only [Result.andThen_ok] at hres
        exact ⟨d, by simp at hres; exact hres.1.symm⟩
      | halt x w1 => rw [hr] at hres; simp [Result.andThen] at hres
    obtain ⟨d, hd⟩ := this _ rfl _ _ h
    exact hn d hd
  · rw [Oper.semAt_eq _ _ _ (fun c hc => hd ⟨c, hc⟩)]
    exact h
theorem OpSem.wpIn {r : Option Nat} {n : Nat} {o : Oper} {e : Env} {ds : List Deferred} {w : World} {K : KW} {next : Act → World → Prop} {Q : Exit → Act → World → Prop}
    (hn : ∀ v w', K v w' → next (actd (put e o.dst v) ds) w') (h : OpSem P o e w K) : o.wpIn (Fr r) n P (actd e ds) w next Q := by
  obtain ⟨nx, w', hr, h⟩ := h
  refine ⟨fun _ _ => trivial, ?_⟩
  rw [evd_eq]
  cases nx <;> simp only [opNext] at h <;> first | exact h.elim | skip
  · rw [semAt_run hr (by simp), Oper.uponIn_value, putd_eq]
    exact hn _ _ h
  · rw [semAt_run hr (by simp), Oper.uponIn_skip, putd_eq]
    exact hn _ _ h
  · rw [semAt_run hr (by simp), Oper.uponIn_enter]
    refine ⟨fun hd => by simp [Fence.wide] at hd, callsIn_r (h.mono fun en w'' hv => ?_)⟩
    obtain ⟨v, rfl, hk⟩ := hv
    simp only [putd_eq]
    exact hn _ _ hk
  · rw [semAt_run hr (by simp), Oper.uponIn_round]
    refine ⟨fun hd => by simp [Fence.wide] at hd, roundIn_r (h.mono fun en w'' hv => ?_)⟩
    obtain ⟨v, rfl, hk⟩ := hv
    simp only [putd_eq]
    exact hn _ _ hk
def lift (l : List Nat) (e0 : Env) (ds : List Deferred) (Q : EPost) : Exit → Act → World → Prop := fun x a w => ∃ e, a = actd e ds ∧ Same l e0 e ∧ Q x e w
theorem lift_mono {l l' : List Nat} {e0 e1 : Env} {ds : List Deferred} {Q Q' : EPost} (h0 : Same l' e1 e0) (hl : ∀ t, t ∈ l → t ∈ l') (hq : ∀ x e w, Q x e w → Q' x e w) :
    ∀ x a w, lift l e0 ds Q x a w → lift l' e1 ds Q' x a w := fun x a w ⟨e, ha, hs, h⟩ => ⟨e, ha, h0.trans (hs.mono hl), hq x e w h⟩
end
end Go.Proofs.YtihnjjmbcbfheaaDoor.V
