/-
  Arguments opened with their bulk: for the laws' second form.
-/
import Derived.Test.YtepmokkhcombmaaDoorRow
import Derived.Deep.DeepHandedRow
import Derived.LaidLaws
namespace Go.Proofs.YtepmokkhcombmaaDoor.V
open Go Go.ChangeShapes Go.WideShapes Go.ChangeAt Go.RowKit
set_option linter.unusedSimpArgs false
set_option maxRecDepth 100000
set_option linter.unusedVariables false

mutual
def Dt.bulk : (d : Dt) → d.T → Nat
  | .int _ => fun _ => 1
  | .bool => fun _ => 1
  | .str => fun (s : ByteArray) => s.size + 1
  | .sl _ r => fun (x : Sl × List (Rw.T r)) => (x.2.map (Rw.bulk r)).sum + 1
def Rw.bulk : (r : Rw) → r.T → Nat
  | .nil => fun _ => 0
  | .cons d r => fun (x : Dt.T d × Rw.T r) => Dt.bulk d x.1 + Rw.bulk r x.2
end
theorem Rw.Is.appB : ∀ {r s : Rw} {w : World} {vs us : List Value} {y : r.T} {z : s.T}, r.Is w vs y → s.Is w us z → ∃ x, (r.app s).Is w (vs ++ us) x ∧ (r.app s).bulk x = r.bulk y + s.bulk z
  | .nil, s, w, vs, us, y, z, h, h' => by simp only [Rw.Is] at h; subst h; exact ⟨z, h', by show _ = 0 + _; rw [Nat.zero_add]; rfl⟩
  | .cons d r, s, w, vs, us, y, z, h, h' => by
    simp only [Rw.Is] at h
    obtain ⟨v, vs', rfl, hd, h⟩ := h
    obtain ⟨x, hx, hb⟩ := Rw.Is.appB h h'
    refine ⟨(y.1, x), by simp only [Rw.app, Rw.Is]; exact ⟨v, vs' ++ us, rfl, hd, hx⟩, ?_⟩
    show Dt.bulk d y.1 + (r.app s).bulk x = (Dt.bulk d y.1 + r.bulk y.2) + s.bulk z
    rw [hb]; omega
structure BulkFn {H : Type} (B : DataW H → Nat) (A : List (DataW H) → Nat) : Prop where
  str : ∀ b, B (.lit (.string b)) = b.length + 1
  one : ∀ d, 1 ≤ B d
  sl : ∀ e s, B (.slice e s) = A e + A s + 1
  agg : ∀ p, B (.agg p) = A p + 1
  cons : ∀ d l, A (d :: l) = B d + A l
theorem BulkFn.sum_le {H : Type} {B : DataW H → Nat} {A : List (DataW H) → Nat} (hB : BulkFn B A) {r : Rw} : ∀ (ys : List r.T) (l : List (DataW H)), ys.length = l.length → (∀ (i : Nat) y d, ys[i]? = some y → l[i]? = some d → r.bulk y ≤ B d) → (ys.map (Rw.bulk r)).sum ≤ A l
  | [], [], _, _ => by simp
  | y :: ys, d :: l, hl, h => by
    have h0 := h 0 y d rfl rfl
    have h1 := hB.sum_le ys l (by simpa using hl) (fun i y d hy hd => h (i + 1) y d (by simpa using hy) (by simpa using hd))
    rw [hB.cons, List.map_cons, List.sum_cons]
    omega
  | [], _ :: _, hl, _ => by simp at hl
  | _ :: _, [], hl, _ => by simp at hl
section
variable {H : Type} {enc : TypeId × Value → H} {P : Program} {w : World} {base : Nat} {spare : Nat → Bool} {held : Bool} {B : DataW H → Nat} {A : List (DataW H) → Nat} (hB : BulkFn B A)
include hB
mutual
theorem open_flatB : ∀ (m n : Nat) (t : TypeId) (r : Rw) (cs : List Value) (x : DataW H × List MemPlace), flat P m t = some r → DataW.trod enc P w base spare held n t cs = some x →
    (∀ k ∈ x.1.weights P t, k ≤ reachBytes) → ∃ y, r.Is w cs y ∧ r.bulk y ≤ B x.1
  | 0, _, _, _, _, _, hf, _, _ => by simp [flat] at hf
  | m + 1, n, t, r, cs, x, hf, h, hw => by
    unfold flat at hf
    split at hf
    · rename_i ht
      injection hf with hf; subst hf
      obtain ⟨b, rfl, _⟩ := DataW.trod_bool ht h
      exact ⟨(b, ()), by simp only [Rw.Is, Dt.Is]; exact ⟨_, _, rfl, rfl, rfl⟩, hB.one _⟩
    · rename_i k ht
      injection hf with hf; subst hf
      obtain ⟨z, rfl, _, hz⟩ := DataW.trod_int ht h
      exact ⟨(z, ()), by simp only [Rw.Is, Dt.Is]; exact ⟨_, _, rfl, ⟨rfl, hz⟩, rfl⟩, hB.one _⟩
    · rename_i ht
      injection hf with hf; subst hf
      obtain ⟨s, rfl, rfl, hs⟩ := DataW.trod_string ht h
      have hb : s.size ≤ reachBytes := hw _ (by simp only [DataW.weights, List.mem_singleton, Array.length_toList]; rfl)
      exact ⟨(s, ()), by simp only [Rw.Is, Dt.Is]; exact ⟨_, _, rfl, ⟨rfl, hb⟩, rfl⟩, by rw [hB.str, Array.length_toList]; exact Nat.le_refl _⟩
    · rename_i e ht
      rw [Option.bind_eq_some_iff] at hf
      obtain ⟨r', hr', hf⟩ := hf
      split at hf
      · rename_i hc
        injection hf with hf; subst hf
        rcases DataW.trod_slice ht h with ⟨rfl, rfl⟩ | ⟨a, len, cap, elems, rest, n', rfl, rfl, rfl, hb, hl, hm, hlen, he, hr1, hr2⟩
        · refine ⟨((⟨none, 0, 0⟩, []), ()), ?_, hB.one _⟩
          simp only [Rw.Is, Dt.Is]
          exact ⟨_, _, rfl, ⟨rfl, rfl, Nat.le_refl _, Nat.zero_le _, by simp, by simp, by simp⟩, rfl⟩
        · simp only [DataW.weights, ht] at hw
          have key : ∀ z ∈ List.range len, ∃ y : r'.T, (∃ vs, At w (a.add (z * r'.n)) vs ∧ vs.length = r'.n ∧ r'.Is w vs y) ∧ ∀ e, elems[z]? = some e → r'.bulk y ≤ B e.1 := fun i hi => by
            have hi : i < len := by simpa using hi
            have h1 := he i hi
            have hi' : i < elems.length := by omega
            rw [List.getElem?_eq_getElem hi', Option.bind_eq_some_iff] at h1
            obtain ⟨vs, hvs, htr⟩ := h1
            obtain ⟨_, hvl, hvc⟩ := World.cells?_some hvs
            obtain ⟨y, hy, hyb⟩ := open_flatB m n' e r' vs _ hr' htr (fun k hk => hw k (List.mem_cons_of_mem _ (List.mem_append_left _ (weightsAll_mem (j := i) (d := elems[i].1) (by simp [List.getElem?_eq_getElem hi']) k hk))))
            rw [hc] at hvl hvc
            refine ⟨y, ⟨vs, fun j v hj => ?_, hvl, hy⟩, fun e he' => by rw [List.getElem?_eq_getElem hi'] at he'; injection he' with he'; rw [← he']; exact hyb⟩
            have hjl : j < r'.n := by rw [← hvl]; exact (List.getElem?_eq_some_iff.1 hj).1
            rw [hvc j hjl, hj]
          obtain ⟨ys, hyl, hys⟩ := exists_list (List.range len) key
          simp only [List.length_range] at hyl
          refine ⟨((⟨some a, len, cap⟩, ys), ()), ?_, ?_⟩
          rotate_left
          · rw [hB.sl]
            have := hB.sum_le (r := r') ys (elems.map (·.1)) (by simp [hyl, hlen]) (fun i y d hy hd => by
              rw [List.getElem?_map, Option.map_eq_some_iff] at hd
              obtain ⟨z, hz, rfl⟩ := hd
              have hil : i < len := by rw [← hyl]; exact (List.getElem?_eq_some_iff.1 hy).1
              exact (hys i i y (by simp [hil]) hy).2 z hz)
            show ((ys.map (Rw.bulk r')).sum + 1) + 0 ≤ _
            omega
          simp only [Rw.Is, Dt.Is]
          refine ⟨_, _, rfl, ⟨rfl, hyl, hl, hm, ?_, fun h => (by cases h), fun i y hy => ?_⟩, rfl⟩
          · have := hw _ (List.mem_cons_self ..)
            simp only [List.length_map] at this
            refine Nat.le_trans (Nat.mul_le_mul_right _ ?_) this
            omega
          · have hil : i < len := by rw [← hyl]; exact (List.getElem?_eq_some_iff.1 hy).1
            obtain ⟨⟨vs, h1, h2, h3⟩, _⟩ := hys i i y (by simp [hil]) hy
            exact ⟨a, vs, rfl, h1, h2, h3⟩
      · cases hf
    · rename_i fs ht
      obtain ⟨xs, n', rfl, rfl, hlen, hxl, hg⟩ := DataW.trod_struct ht h
      simp only [DataW.weights, ht] at hw
      rw [Option.bind_eq_some_iff] at hf
      obtain ⟨r', hf, hc⟩ := hf
      split at hc
      rotate_left
      · cases hc
      rename_i hn
      injection hc with hc; subst hc
      obtain ⟨y, hy, hyb⟩ := open_flatFB m n' fs.toList 0 r' cs xs hf (by simpa using hxl) (fun i f hi => by simpa using hg i f (by simpa using hi)) hw
      rw [List.drop_zero] at hy
      rw [← hn, ← hlen, List.take_length] at hy
      exact ⟨y, hy, by rw [hB.agg]; omega⟩
    · cases hf
theorem open_flatFB : ∀ (m n : Nat) (fs : List Field) (off : Nat) (r : Rw) (cs : List Value) (xs : List (DataW H × List MemPlace)), flatF P m fs off = some r → xs.length = fs.length →
    (∀ (i : Nat) (f : Field), fs[i]? = some f → DataW.trod enc P w base spare held n f.type ((cs.drop f.offset).take (P.cellsOf f.type)) = xs[i]?) →
    (∀ k ∈ DataW.weightsEach P (fs.map (·.type)) (xs.map (·.1)), k ≤ reachBytes) → ∃ y, r.Is w ((cs.drop off).take r.n) y ∧ r.bulk y ≤ A (xs.map (·.1))
  | m, n, [], off, r, cs, xs, hf, hl, hg, hw => by
    cases m <;> (simp [flatF] at hf; subst hf; exact ⟨(), by simp [Rw.Is, Rw.n], Nat.zero_le _⟩)
  | 0, n, f :: fs, off, r, cs, xs, hf, hl, hg, hw => by simp [flatF] at hf
  | m + 1, n, f :: fs, off, r, cs, xs, hf, hl, hg, hw => by
    unfold flatF at hf
    split at hf
    · rename_i ho
      subst ho
      rw [Option.bind_eq_some_iff] at hf
      obtain ⟨r1, hr1, hf⟩ := hf
      split at hf
      · rename_i hc
        rw [Option.map_eq_some_iff] at hf
        obtain ⟨r2, hr2, rfl⟩ := hf
        match xs, hl with
        | x :: xs, hl =>
          have h0 := hg 0 f rfl
          simp only [List.getElem?_cons_zero] at h0
          obtain ⟨y1, hy1, hb1⟩ := open_flatB m n f.type r1 _ x hr1 h0 (fun k hk => hw k (by simp [DataW.weightsEach, hk]))
          obtain ⟨y2, hy2, hb2⟩ := open_flatFB m n fs (f.offset + r1.n) r2 cs xs hr2 (by simpa using hl) (fun i f' hi => by simpa using hg (i + 1) f' (by simpa using hi)) (fun k hk => hw k (by simp [DataW.weightsEach, hk]))
          rw [hc] at hy1
          obtain ⟨y, hy, hyb⟩ := Rw.Is.appB hy1 hy2
          refine ⟨y, ?_, by rw [hyb, List.map_cons, hB.cons]; omega⟩
          rw [Rw.n_app, List.take_add, List.drop_drop]
          exact hy
      · cases hf
    · cases hf
end
def Par.bulk : (p : Par) → p.T → Nat
  | .one d => d.bulk
  | .agg r => r.bulk
def PT.bulk : (l : List Par) → PT l → Nat
  | [], _ => 0
  | p :: l, x => p.bulk x.1 + PT.bulk l x.2
theorem open_parB {t : Nat} {p : Par} (hp : parOk P t p) {b0 : Nat} {v : Value} {d : DataW H} {ps : List MemPlace} (hval : Value.okWide P w .any b0 t v)
    (h : DataW.Trod enc P w 0 (fun _ => true) true t v d ps) (hw : ∀ k ∈ d.weights P t, k ≤ reachBytes) : ∃ x, p.Is w v x ∧ p.bulk x ≤ B d := by
  obtain ⟨n, hn⟩ := h
  cases p with
  | one dt =>
    obtain ⟨hf, ha⟩ := hp
    obtain ⟨y, hy, hb⟩ := open_flatB hB 20 n t _ _ _ hf hn hw
    have hc : v.cells.toList = [v] := by
      unfold flat at hf
      split at hf
      · rename_i ht; obtain ⟨b, rfl⟩ := okWide_bool ht hval; rfl
      · rename_i k ht; obtain ⟨b, rfl⟩ := okWide_int ht hval; rfl
      · rename_i ht; obtain ⟨b, rfl⟩ := okWide_string ht hval; rfl
      · rename_i e ht; obtain ⟨a, l, c, rfl⟩ := okWide_slice ht hval; rfl
      · rename_i fs ht
        unfold isAgg at ha
        rw [ht] at ha
        cases ha
      · cases hf
    rw [hc] at hy
    simp only [Rw.Is] at hy
    obtain ⟨v', vs', h1, h2, h3⟩ := hy
    injection h1 with h1
    subst h1
    exact ⟨y.1, h2, Nat.le_trans (Nat.le_add_right _ _) hb⟩
  | agg r =>
    obtain ⟨hf, ha⟩ := hp
    obtain ⟨y, hy, hb⟩ := open_flatB hB 20 n t _ _ _ hf hn hw
    unfold isAgg at ha
    split at ha
    · rename_i fs ht
      obtain ⟨cs, rfl, _⟩ := okWide_struct ht hval
      exact ⟨y, ⟨_, rfl, hy⟩, hb⟩
    · cases ha
theorem open_argsB : ∀ {ts : List Nat} {pars : List Par} (hp : parsOk P ts pars) {b0 : Nat} {vs : List Value} {ds : List (DataW H)} {ps : List MemPlace}
    (hval : ∀ (j : Nat) t v, ts[j]? = some t → vs[j]? = some v → Value.okWide P w .any b0 t v) (h : DataW.TrodAll enc P w 0 (fun _ => true) true ts vs ds ps)
    (hw : ∀ k ∈ DataW.weightsEach P ts ds, k ≤ reachBytes), ∃ x, ArgsIs pars w vs x ∧ PT.bulk pars x ≤ A ds
  | [], [], hp, b0, vs, ds, ps, hval, h, hw => by
    obtain ⟨rfl, rfl, rfl⟩ := trodAll_nil h
    exact ⟨(), rfl, Nat.zero_le _⟩
  | t :: ts, p :: pars, hp, b0, vs, ds, ps, hval, h, hw => by
    obtain ⟨v, vs', d, ds', q, q', rfl, rfl, rfl, h0, h1⟩ := trodAll_cons h
    obtain ⟨x, hx, hb⟩ := open_parB hB hp.1 (hval 0 t v rfl rfl) h0 (fun k hk => hw k (by simp [DataW.weightsEach, hk]))
    obtain ⟨y, hy, hc⟩ := open_argsB hp.2 (fun j t v ht hv => hval (j + 1) t v (by simpa using ht) (by simpa using hv)) h1 (fun k hk => hw k (by simp [DataW.weightsEach, hk]))
    refine ⟨(x, y), ⟨v, vs', rfl, hx, hy⟩, ?_⟩
    rw [hB.cons]
    show p.bulk x + PT.bulk pars y ≤ _
    omega
  | [], _ :: _, hp, _, _, _, _, _, _, _ => hp.elim
  | _ :: _, [], hp, _, _, _, _, _, _, _ => hp.elim
end
theorem upto_bulk {H : Type} : BulkFn (H := H) Rows.uptoBulk Rows.uptoBulkAll where
  str b := by simp [Rows.uptoBulk]
  one d := by
    cases d with
    | lit l => cases l <;> simp [Rows.uptoBulk]
    | nil => simp [Rows.uptoBulk]
    | ptr d => simp [Rows.uptoBulk]
    | slice elems spare => simp [Rows.uptoBulk]
    | agg parts => simp [Rows.uptoBulk]
    | iface t d => simp [Rows.uptoBulk]
    | map entries => simp [Rows.uptoBulk]
    | held h => simp [Rows.uptoBulk]
  sl e s := by simp [Rows.uptoBulk]
  agg p := by simp [Rows.uptoBulk]
  cons d l := by simp [Rows.uptoBulkAll]
/-- the second form's step, out of a walk -/
theorem lifted_upto (Fi : Stop.Interp) {os : Os} (started : os.Started) {H : Type} {enc : TypeId × Value → H} {F : FuncId} {fn : Func} {s : ChangeSpec} {domain : List PathCond} {laid : List (String × DataW Unit)} {tb : TypeId}
    (noInit : Tryd.checked.prog.inits.idxOf? F = none) (hfn : Tryd.checked.prog.funcs[F]? = some fn)
    (wit : ∃ (w : World) (tape : Tape) (i : Input), w.os = os ∧ (w.forCall tape i).Shaped Tryd.checked.prog ∧ i.vars = [] ∧ Input.okWide Tryd.checked.prog (w.forCall tape i) .any w.heap.size F i ∧
      (Rows.OpenSpec.upto s).preRow enc Tryd.checked.prog fn domain false laid (w.forCall tape i).memory i.args ∧ ({} : Assume).holds Tryd.checked.prog (lone (Frame.enter Tryd.checked.prog F i.args .normal) [] (w.forCall tape i)))
    (hvars : s.vars = []) (hspec : ∀ ds : List (DataW H), ds.length = fn.params.size → s.fn H ds = { results := [.lit (.bool true)], args := ds })
    (hres : fn.resultTypes = #[tb]) (hb : Tryd.prog.underlying tb = some .bool) (hts : ∀ t ∈ fn.params.toList, Tryd.prog.readableRec t = true ∧ t < Tryd.prog.types.size)
    {pars : List Par} (hpars : parsOk Tryd.prog fn.params.toList pars)
    (walk : ∀ (W : World) (args : Array Value) (x : PT pars), ArgsIs pars W args.toList x → PT.bulk pars x ≤ 1048576 → laidMetH Tryd.prog laid W → Calls Tryd.prog F args W fun e W' => e = .returned (.bool true) ∧ Ext W W') :
    ReturnsInHanded {} Tryd.checked os F .any ((Rows.OpenSpec.upto s).preRow enc Tryd.prog fn domain false laid) (((Rows.OpenSpec.upto s).at Fi).post enc Tryd.prog fn false true false false) := by
  refine returnsInHanded_of_row (C := Tryd.checked) (s := Rows.OpenSpec.upto s) own started noInit hfn wit ?_
  intro W base args ds gs before hval hW _ hcond hsz hL _ _
  have hk : Rows.uptoBulkAll (ds ++ gs) ≤ 1048576 := of_decide_eq_true (hcond _ rfl)
  have hW' : DataW.Whole enc Tryd.prog fn.params.toList s.vars false W args.toList ds gs before := hW
  obtain ⟨p, q, hA, hV, rfl, hfz, hnd⟩ := hW'
  rw [hvars] at hV
  obtain ⟨rfl, rfl⟩ := trodVars_none hV
  rw [List.append_nil] at hk
  have h1 : s.plain.varTypes Tryd.checked.prog = [] := by
    unfold DataSpec.varTypes ChangeSpec.plain
    simp only [hvars]
    rfl
  have hsz2 : (DataW.weightsEach Tryd.prog (fn.params.toList ++ s.plain.varTypes Tryd.prog) (ds ++ [])).all (· ≤ reachBytes) = true := hsz
  have hsz' := hsz2
  rw [show s.plain.varTypes Tryd.prog = [] from h1, List.append_nil, List.append_nil] at hsz'
  obtain ⟨x, hx, hbx⟩ := open_argsB upto_bulk hpars (b0 := base) (fun j t v ht hv => hval j t v (by simpa using ht) (by simpa using hv)) hA (fun k hk => by simpa using List.all_eq_true.1 hsz' k hk)
  exact contract_ofx (s := s) hvars hspec hres hb hts hW (walk W args x hx (Nat.le_trans hbx hk) hL)
end Go.Proofs.YtepmokkhcombmaaDoor.V
