/-
  A law's row out of its walk: for any parameters that are readable.
-/
import Derived.Test.YtihnjjmbcbfheaaDoorOpen
import Derived.Test.YtihnjjmbcbfheaaDoorRows
namespace Go.Proofs.YtihnjjmbcbfheaaDoor.V
open Go Go.ChangeShapes Go.WideShapes Go.ChangeAt Go.RowKit
set_option linter.unusedSimpArgs false
set_option linter.unusedVariables false
set_option maxRecDepth 100000

theorem own : ownKnob Tryd.prog.godebug = none := by kernel_rfl
theorem laid : laidOutB Tryd.prog = true := by kernel_rfl

inductive Par where
  | one (d : Dt) | agg (r : Rw)
def Par.T : Par → Type
  | .one d => d.T
  | .agg r => r.T
def Par.Is : (p : Par) → World → Value → p.T → Prop
  | .one d => fun w v x => d.Is w v x
  | .agg r => fun w v x => ∃ vs, v = .agg vs.toArray ∧ r.Is w vs x
def PT : List Par → Type
  | [] => Unit
  | p :: l => p.T × PT l
def ArgsIs : (l : List Par) → World → List Value → PT l → Prop
  | [], _, vs, _ => vs = []
  | p :: l, w, vs, x => ∃ v vs', vs = v :: vs' ∧ p.Is w v x.1 ∧ ArgsIs l w vs' x.2
def isAgg (P : Program) (t : Nat) : Bool :=
  match P.underlying t with
  | some (.struct _) => true
  | _ => false
def parOk (P : Program) (t : Nat) : Par → Prop
  | .one d => flat P 20 t = some (.cons d .nil) ∧ isAgg P t = false
  | .agg r => flat P 20 t = some r ∧ isAgg P t = true
def parsOk (P : Program) : List Nat → List Par → Prop
  | [], [] => True
  | t :: ts, p :: ps => parOk P t p ∧ parsOk P ts ps
  | _, _ => False
section
variable {H : Type} {enc : TypeId × Value → H} {P : Program} {w : World}
theorem open_par {t : Nat} {p : Par} (hp : parOk P t p) {b0 : Nat} {v : Value} {d : DataW H} {ps : List MemPlace} (hval : Value.okWide P w .any b0 t v)
    (h : DataW.Trod enc P w 0 (fun _ => true) true t v d ps) (hw : ∀ k ∈ d.weights P t, k ≤ reachBytes) : ∃ x, p.Is w v x := by
  obtain ⟨n, hn⟩ := h
  cases p with
  | one dt =>
    obtain ⟨hf, ha⟩ := hp
    obtain ⟨y, hy⟩ := open_flat 20 n t _ _ _ hf hn hw
    have hc : v.cells.toList = [v] := by
      unfold flat at hf
      split at hf
      · rename_i ht; obtain ⟨b, rfl⟩ := okWide_bool ht hval; rfl
      · rename_i k ht; obtain ⟨b, rfl⟩ := okWide_int ht hval; rfl
      · rename_i ht; obtain ⟨b, rfl⟩ := okWide_string ht hval; rfl
      · rename_i e ht; obtain ⟨a, l, c, rfl⟩ := okWide_slice ht hval; rfl
      · rename_i fs ht
        unfold isAgg at ha
        rw [ht] at ha
        cases ha
      · cases hf
    rw [hc] at hy
    simp only [Rw.Is] at hy
    obtain ⟨v', vs', h1, h2, h3⟩ := hy
    injection h1 with h1
    subst h1
    exact ⟨y.1, h2⟩
  | agg r =>
    obtain ⟨hf, ha⟩ := hp
    obtain ⟨y, hy⟩ := open_flat 20 n t _ _ _ hf hn hw
    unfold isAgg at ha
    split at ha
    · rename_i fs ht
      obtain ⟨cs, rfl, _⟩ := okWide_struct ht hval
      exact ⟨y, _, rfl, hy⟩
    · cases ha
theorem open_args : ∀ {ts : List Nat} {pars : List Par} (hp : parsOk P ts pars) {b0 : Nat} {vs : List Value} {ds : List (DataW H)} {ps : List MemPlace}
    (hval : ∀ (j : Nat) t v, ts[j]? = some t → vs[j]? = some v → Value.okWide P w .any b0 t v) (h : DataW.TrodAll enc P w 0 (fun _ => true) true ts vs ds ps)
    (hw : ∀ k ∈ DataW.weightsEach P ts ds, k ≤ reachBytes), ∃ x, ArgsIs pars w vs x
  | [], [], hp, b0, vs, ds, ps, hval, h, hw => by
    obtain ⟨rfl, rfl, rfl⟩ := trodAll_nil h
    exact ⟨(), rfl⟩
  | t :: ts, p :: pars, hp, b0, vs, ds, ps, hval, h, hw => by
    obtain ⟨v, vs', d, ds', q, q', rfl, rfl, rfl, h0, h1⟩ := trodAll_cons h
    obtain ⟨x, hx⟩ := open_par hp.1 (hval 0 t v rfl rfl) h0 (fun k hk => hw k (by simp [DataW.weightsEach, hk]))
    obtain ⟨y, hy⟩ := open_args hp.2 (fun j t v ht hv => hval (j + 1) t v (by simpa using ht) (by simpa using hv)) h1 (fun k hk => hw k (by simp [DataW.weightsEach, hk]))
    exact ⟨(x, y), v, vs', rfl, hx, hy⟩
  | [], _ :: _, hp, _, _, _, _, _, _, _ => hp.elim
  | _ :: _, [], hp, _, _, _, _, _, _, _ => hp.elim
theorem again_all (hl : laidOutB P = true) {W W' : World} (hb : Below W.heap.size W W') : ∀ {ts : List TypeId} {vs : List Value} {ds : List (DataW H)} {ps : List MemPlace},
    (∀ t ∈ ts, P.readableRec t = true ∧ t < P.types.size) → DataW.TrodAll enc P W 0 (fun _ => true) true ts vs ds ps → (∀ x ∈ ps, x.block < W.heap.size) →
    ∀ sp : Nat → Bool, (∀ p ∈ ps, sp p.block = true) → DataW.TrodAll enc P W' 0 sp true ts vs ds ps
  | [], vs, ds, ps, ht, h, hlt, sp, hsp => by
    obtain ⟨rfl, rfl, rfl⟩ := trodAll_nil h
    exact trodAll_mk0
  | t :: ts, vs, ds, ps, ht, h, hlt, sp, hsp => by
    obtain ⟨v, vs', d, ds', q, q', rfl, rfl, rfl, h0, h1⟩ := trodAll_cons h
    exact trodAll_cons_mk (WideElems.Trod_stays hl (ht t (by simp)).1 (ht t (by simp)).2 h0 (fun x hx => hb.same (hlt x (by simp [hx]))) (fun x hx => hsp x (by simp [hx])))
      (again_all hl hb (fun t ht' => ht t (by simp [ht'])) h1 (fun x hx => hlt x (by simp [hx])) sp fun x hx => hsp x (by simp [hx]))
theorem trod_len : ∀ {ts : List TypeId} {vs : List Value} {ds : List (DataW H)} {ps : List MemPlace}, DataW.TrodAll enc P w 0 (fun _ => true) true ts vs ds ps → ds.length = ts.length
  | [], _, _, _, h => by
    obtain ⟨rfl, rfl, _⟩ := trodAll_nil h
    rfl
  | _ :: _, _, _, _, h => by
    obtain ⟨v, vs1, d, ds1, a, b, rfl, rfl, rfl, _, h2⟩ := trodAll_cons h
    simp [trod_len h2]
theorem post_of_below {f : Func} {s : ChangeSpec} {apart fresh handsOn again : Bool} {W W' : World} {args : Array Value} {v : Value} {ds gs : List (DataW H)} {before pa pv : List MemPlace}
    (hW : DataW.Whole enc P f.params.toList s.vars apart W args.toList ds gs before)
    (hres : ∀ (b : Nat) (sp : Nat → Bool) (hd : Bool), DataW.TrodAll enc P W' b sp hd f.resultTypes.toList (v.resultList f.resultTypes.size) (s.fn H (ds ++ gs)).results [])
    (hargs : ∀ sp : Nat → Bool, (∀ p ∈ before, sp p.block = true) → DataW.TrodAll enc P W' 0 sp true f.params.toList args.toList (s.fn H (ds ++ gs)).args pa)
    (hvars : ∀ sp : Nat → Bool, (∀ p ∈ before, sp p.block = true) → DataW.TrodVars enc P W' sp s.vars (s.fn H (ds ++ gs)).vars pv)
    (hps : before = pa ++ pv) (hb : Below W.heap.size W W')
    (hok : ∀ (j : Nat) (t : TypeId) (r : Value), f.resultTypes[j]? = some t → (v.resultList f.resultTypes.size)[j]? = some r → Value.okWide P W' .any 0 t r) :
    s.post enc P f apart fresh handsOn again W args v W' := by
  have hlt : ∀ p ∈ before, p.block < W.heap.size := fun p hp => hW.lt p hp
  have hold : ∀ p ∈ before, (fun b => decide (b < W.heap.size)) p.block = true := fun p hp => by simpa using hlt p hp
  refine ⟨ds, gs, before, [], pa, pv, hW, hres _ _ _, hargs _ hold, hvars _ hold, World.keptBut_mono (fun p hp => ⟨hp, ?_⟩) (hb.frame (· ∈ before)), fun _ => ?_⟩
  · rw [hps, List.mem_append] at hp
    exact Or.inr hp
  · obtain ⟨_, _, _, _, _, hz, hn⟩ := hW
    refine ⟨hok, _, _, ([] ++ pa) ++ pv, ⟨[] ++ pa, pv, trodAll_append (hargs _ (fun _ _ => rfl)) (hres _ _ _), hvars _ (fun _ _ => rfl), rfl, ?_, ?_⟩, ?_⟩
    · intro b off hp
      have hin : MemPlace.cell b off ∈ before := by rw [hps]; simpa using hp
      rw [hb.frozen (hlt _ hin)]
      exact hz b off hin
    · intro ha
      have := hn ha
      rw [hps] at this
      simpa using this
    · intro p hp _
      rw [hps]
      simpa using hp
end

theorem contract_ofx {H : Type} {enc : TypeId × Value → H} {F : FuncId} {fn : Func} {s : ChangeSpec} {tb : TypeId}
    (hvars : s.vars = []) (hspec : ∀ ds : List (DataW H), ds.length = fn.params.size → s.fn H ds = { results := [.lit (.bool true)], args := ds })
    (hres : fn.resultTypes = #[tb]) (hb : Tryd.prog.underlying tb = some .bool) (hts : ∀ t ∈ fn.params.toList, Tryd.prog.readableRec t = true ∧ t < Tryd.prog.types.size)
    {W : World} {args : Array Value} {ds gs : List (DataW H)} {before : List MemPlace}
    (hW : DataW.Whole enc Tryd.prog fn.params.toList s.vars false W args.toList ds gs before)
    (walk : Calls Tryd.prog F args W fun e W' => e = .returned (.bool true) ∧ Ext W W') :
    Calls Tryd.prog F args W fun e W' => ∃ v, e = .returned v ∧ s.post enc Tryd.prog fn false true false false W args v W' := by
  have hW' : DataW.Whole enc Tryd.prog fn.params.toList s.vars false W args.toList ds gs before := hW
  obtain ⟨p, q, hA, hV, rfl, hfz, hnd⟩ := hW'
  rw [hvars] at hV
  obtain ⟨rfl, rfl⟩ := trodVars_none hV
  have hlen : ds.length = fn.params.size := by
    have := trod_len hA
    simpa using this
  refine walk.mono ?_
  rintro e W' ⟨rfl, hg⟩
  have hlt : ∀ x ∈ p, x.block < W.heap.size := fun x hx => by
    have := hW.lt x (by simp [hx])
    exact this
  refine ⟨_, rfl, post_of_below (pa := p) (pv := []) hW ?_ ?_ ?_ rfl (Upd.below hg) ?_⟩
  · intro b sp hd
    rw [hres, List.append_nil, hspec ds hlen]
    exact trodAll_cons_mk (shut_bool hb _) trodAll_mk0
  · intro sp hsp
    rw [List.append_nil, hspec ds hlen]
    exact again_all laid (Upd.below hg) hts hA hlt sp fun x hx => hsp x (by simp [hx])
  · intro sp hsp
    rw [List.append_nil, hspec ds hlen, hvars]
    rfl
  · exact ok_one hres rfl (okWide_bool_mk hb _)
/-- what a law's walk gives, for one world and one row of arguments -/
theorem contract_of {H : Type} {enc : TypeId × Value → H} {F : FuncId} {fn : Func} {s : ChangeSpec} {tb : TypeId}
    (hvars : s.vars = []) (hspec : ∀ ds : List (DataW H), ds.length = fn.params.size → s.fn H ds = { results := [.lit (.bool true)], args := ds })
    (hres : fn.resultTypes = #[tb]) (hb : Tryd.prog.underlying tb = some .bool) (hts : ∀ t ∈ fn.params.toList, Tryd.prog.readableRec t = true ∧ t < Tryd.prog.types.size)
    {pars : List Par} (hpars : parsOk Tryd.prog fn.params.toList pars)
    {W : World} {base : Nat} {args : Array Value} {ds gs : List (DataW H)} {before : List MemPlace}
    (hval : ∀ (j : Nat) t v, fn.params[j]? = some t → args[j]? = some v → Value.okWide Tryd.prog W .any base t v)
    (hW : DataW.Whole enc Tryd.prog fn.params.toList s.vars false W args.toList ds gs before)
    (hsz : (DataW.weightsEach Tryd.prog (fn.params.toList ++ s.plain.varTypes Tryd.prog) (ds ++ gs)).all (· ≤ reachBytes) = true)
    (walk : ∀ (x : PT pars), ArgsIs pars W args.toList x → Calls Tryd.prog F args W fun e W' => e = .returned (.bool true) ∧ Ext W W') :
    Calls Tryd.prog F args W fun e W' => ∃ v, e = .returned v ∧ s.post enc Tryd.prog fn false true false false W args v W' := by
  have hW' : DataW.Whole enc Tryd.prog fn.params.toList s.vars false W args.toList ds gs before := hW
  obtain ⟨p, q, hA, hV, rfl, hfz, hnd⟩ := hW'
  rw [hvars] at hV
  obtain ⟨rfl, rfl⟩ := trodVars_none hV
  obtain ⟨x, hx⟩ := open_args hpars (b0 := base) (fun j t v ht hv => hval j t v (by simpa using ht) (by simpa using hv)) hA (fun k hk => by
    have h1 : s.plain.varTypes Tryd.prog = [] := by
      unfold DataSpec.varTypes ChangeSpec.plain
      simp only [hvars]
      rfl
    rw [h1, List.append_nil, List.append_nil] at hsz
    simpa using List.all_eq_true.1 hsz k hk)
  exact contract_ofx hvars hspec hres hb hts hW (walk x hx)
theorem lifted_of {os : Os} (started : os.Started) {H : Type} {enc : TypeId × Value → H} {F : FuncId} {fn : Func} {s : ChangeSpec} {domain : List PathCond} {tb : TypeId}
    (noInit : Tryd.checked.prog.inits.idxOf? F = none) (hfn : Tryd.checked.prog.funcs[F]? = some fn)
    (wit : ∃ (w : World) (tape : Tape) (i : Input), w.os = os ∧ (w.forCall tape i).Shaped Tryd.checked.prog ∧ i.vars = [] ∧ Input.okWide Tryd.checked.prog (w.forCall tape i) .any w.heap.size F i ∧
      s.pre6 enc Tryd.checked.prog fn domain false (w.forCall tape i).memory i.args ∧ ({} : Assume).holds Tryd.checked.prog (lone (Frame.enter Tryd.checked.prog F i.args .normal) [] (w.forCall tape i)))
    (hvars : s.vars = []) (hspec : ∀ ds : List (DataW H), ds.length = fn.params.size → s.fn H ds = { results := [.lit (.bool true)], args := ds })
    (hres : fn.resultTypes = #[tb]) (hb : Tryd.prog.underlying tb = some .bool) (hts : ∀ t ∈ fn.params.toList, Tryd.prog.readableRec t = true ∧ t < Tryd.prog.types.size)
    {pars : List Par} (hpars : parsOk Tryd.prog fn.params.toList pars)
    (walk : ∀ (W : World) (args : Array Value) (x : PT pars), ArgsIs pars W args.toList x → Calls Tryd.prog F args W fun e W' => e = .returned (.bool true) ∧ Ext W W') :
    ReturnsInHanded {} Tryd.checked os F .any (s.pre6 enc Tryd.prog fn domain false) (s.post enc Tryd.prog fn false true false false) := by
  refine returnsInHanded_of_change_sized (C := Tryd.checked) own started noInit hfn wit ?_
  intro W base args ds gs before hval hW hcnd hsz _
  exact contract_of hvars hspec hres hb hts hpars hval hW hsz fun x hx => walk W args x hx
end Go.Proofs.YtihnjjmbcbfheaaDoor.V
