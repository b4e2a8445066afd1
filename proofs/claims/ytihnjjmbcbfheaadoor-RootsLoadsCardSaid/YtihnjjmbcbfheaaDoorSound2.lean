/-
  The operations that leave the world alone do what 'pureD' says, the rest.
-/
import Derived.Test.YtihnjjmbcbfheaaDoorSound
namespace Go.Proofs.YtihnjjmbcbfheaaDoor.V
open Go Go.RowKit
set_option linter.unusedVariables false
set_option linter.unusedSimpArgs false

section
variable {P : Program} {τ : Tab}

theorem run_sizeOf {t n b : Nat} {z : List Value} (hτ : τ.Ok P) (h : lk τ.siz t = some (n, b, z)) (w : World) : (sizeOf t).run P w = .ok n w := by
  obtain ⟨i, hi, rfl, _⟩ := hτ.siz t n b z h
  simp [sizeOf, typeInfo, hi]

theorem pickD_sound (c : Bool) (x y : Value) (K : Value → Prop) (h : pickD c x y K) : K (if c then x else y) := by
  unfold pickD at h
  split at h
  · cases c <;> exact h
  · cases c
    · exact (gd_spec h).2 rfl
    · exact (gd_spec h).1 rfl
theorem unD_sound (op : UnOp) (x : Value) (K : Value → Prop) (h : unD op x K) : ∃ v, K v ∧ Yld P (Op.unary op x) v := by
  unfold unD at h
  split at h
  · exact ⟨_, h, fun w => by simp [Op.unary]⟩
  · exact ⟨_, h, fun w => by simp [Op.unary, Op.intArith]⟩
  · exact ⟨_, h, fun w => by simp [Op.unary, Op.intBits, bitV]⟩
  · exact h.elim
theorem convD_sound (hτ : τ.Ok P) (s d : Nat) (x : Value) (K : Value → Prop) (h : convD τ s d x K) : ∃ v, K v ∧ Yld P (convert s d x) v := by
  unfold convD at h
  split at h
  · rename_i hs hd
    obtain ⟨ds, hs⟩ := Option.isSome_iff_exists.1 hs
    obtain ⟨ds', hs, _⟩ := hτ.any hs
    refine ⟨_, h, fun w => ?_⟩
    unfold convert
    simp only [Sem.run_bind, run_underlying hs, run_underlying (hτ.int hd), Result.andThen_ok]
    cases ds' <;> rfl
  · rename_i hs hd
    obtain ⟨ds, hs⟩ := Option.isSome_iff_exists.1 hs
    obtain ⟨ds', hs, _⟩ := hτ.any hs
    refine ⟨_, h, fun w => ?_⟩
    unfold convert
    simp only [Sem.run_bind, run_underlying hs, run_underlying (hτ.string hd), Result.andThen_ok]
    cases ds' <;> rfl
  · exact h.elim
theorem lenD_sound (hτ : τ.Ok P) (t ty : Nat) (x : Value) (K : Value → Prop) (h : lenD τ t x K) : ∃ v, K v ∧ Yld P (Builtin.len_ #[t] ty #[x]) v := by
  unfold lenD at h
  split at h
  · rename_i hd
    refine ⟨_, h, fun w => ?_⟩
    simp [Builtin.len_, run_underlying (hτ.string hd), goInt]
  · rename_i hd
    refine ⟨_, h, fun w => ?_⟩
    simp [Builtin.len_, run_underlying (hτ.slice hd), goInt]
  · exact h.elim
theorem capD_sound (hτ : τ.Ok P) (t ty : Nat) (x : Value) (K : Value → Prop) (h : capD τ t x K) : ∃ v, K v ∧ Yld P (Builtin.cap_ #[t] ty #[x]) v := by
  unfold capD at h
  split at h
  · rename_i hd
    refine ⟨_, h, fun w => ?_⟩
    simp [Builtin.cap_, run_underlying (hτ.slice hd), goInt]
  · exact h.elim
theorem extractD_sound (x : Value) (i : Nat) (K : Value → Prop) (h : extractD x i K) : ∃ v, K v ∧ Yld P (Instr.extract x i) v := by
  unfold extractD at h
  split at h
  · obtain ⟨v, hv, hk⟩ := nth_spec _ _ _ h
    refine ⟨v, hk, fun w => ?_⟩
    rw [Array.getElem?_toList] at hv
    simp [Instr.extract, hv]
  · exact h.elim
theorem nthP_eq : ∀ (l : List (Nat × Nat)) (i : Nat), nthP l i = l[i]?
  | [], _ => rfl
  | _ :: _, 0 => rfl
  | _ :: l, n + 1 => by simpa [nthP] using nthP_eq l n
theorem field_of {fs : Array Field} {l : List (Nat × Nat)} {i off ft : Nat} (hl : fs.toList.map (fun f => (f.offset, f.type)) = l) (h : nthP l i = some (off, ft)) :
    ∃ f, fs[i]? = some f ∧ f.offset = off ∧ f.type = ft := by
  subst hl
  rw [nthP_eq, List.getElem?_map, Array.getElem?_toList] at h
  cases hf : fs[i]? with
  | none => rw [hf] at h; cases h
  | some f => rw [hf] at h; simp only [Option.map_some, Option.some.injEq, Prod.mk.injEq] at h; exact ⟨f, rfl, h.1, h.2⟩
theorem fieldD_sound (hτ : τ.Ok P) (t : Nat) (x : Value) (i : Nat) (K : Value → Prop) (h : fieldD τ t x i K) : ∃ v, K v ∧ Yld P (Instr.field t x i) v := by
  unfold fieldD at h
  split at h
  · rename_i fs cs hd
    obtain ⟨fs', hu, hl⟩ := hτ.struct hd
    split at h
    · rename_i off ft hf
      obtain ⟨f, hf1, rfl, rfl⟩ := field_of hl hf
      split at h
      · rename_i ha
        obtain ⟨v, hv, hk⟩ := nth_spec _ _ _ h
        rw [Array.getElem?_toList] at hv
        refine ⟨v, hk, fun w => ?_⟩
        simp [Instr.field, run_underlying hu, hf1, part, asAgg, run_isAgg hτ ha, hv]
      · rename_i n _ _ ha hs
        refine ⟨_, h, fun w => ?_⟩
        simp [Instr.field, run_underlying hu, hf1, part, asAgg, run_isAgg hτ ha, run_sizeOf hτ hs]
        apply Array.ext'
        simp [List.extract_eq_take_drop]
      · exact h.elim
    · exact h.elim
  · exact h.elim
theorem fieldAddrD_sound (hτ : τ.Ok P) (t : Nat) (x : Value) (i : Nat) (K : Value → Prop) (h : fieldAddrD τ t x i K) : ∃ v, K v ∧ Yld P (Instr.fieldAt t x i) v := by
  unfold fieldAddrD at h
  split at h
  · rename_i fs a hd
    obtain ⟨fs', hu, hl⟩ := hτ.struct hd
    split at h
    · rename_i off ft hf
      obtain ⟨f, hf1, rfl, rfl⟩ := field_of hl hf
      split at h
      · rename_i n _ _ hs
        obtain ⟨hn, p, rfl, hk⟩ := h
        refine ⟨_, hk, fun w => ?_⟩
        simp [Instr.fieldAt, run_underlying hu, hf1, Instr.sureAddr, fieldPlace, run_sizeOf hτ hs, hn]
      · exact h.elim
    · exact h.elim
  · exact h.elim
theorem indexAddrD_sound (hτ : τ.Ok P) (t : Nat) (x i : Value) (K : Value → Prop) (h : indexAddrD τ t x i K) : ∃ v, K v ∧ Yld P (Instr.indexAt t x i) v := by
  unfold indexAddrD at h
  split at h
  · rename_i el a n c k i hd
    split at h
    · rename_i sz _ _ hs
      obtain ⟨h0, h1, p, rfl, hk⟩ := h
      refine ⟨_, hk, fun w => ?_⟩
      simp [Instr.indexAt, asIntOf, run_underlying (hτ.slice hd), run_sizeOf hτ hs, h0, h1]
    · exact h.elim
  · exact h.elim
theorem indexD_sound (hτ : τ.Ok P) (t : Nat) (x i : Value) (K : Value → Prop) (h : indexD τ t x i K) : ∃ v, K v ∧ Yld P (Instr.index t x i) v := by
  unfold indexD at h
  split at h
  · rename_i s k i hd
    obtain ⟨h0, b, hb, hk⟩ := h
    refine ⟨_, hk, fun w => ?_⟩
    simp [Instr.index, asIntOf, run_underlying (hτ.string hd), h0, hb]
  · exact h.elim
theorem run_sliceBound {k : IntKind} {i : Int} {y : Nat} {code : BoundsCode} (h0 : 0 ≤ i) (h1 : i ≤ y) (w : World) :
    (Instr.sliceBound (.int k i) y code).run P w = .ok i.toNat w := by
  simp [Instr.sliceBound, asIntOf, h0, h1]
theorem sliceD_sound (hτ : τ.Ok P) (t : Nat) (x : Value) (lo hi mx : Option Value) (K : Value → Prop) (h : sliceD τ t x lo hi mx K) :
    ∃ v, K v ∧ Yld P (Instr.sliceAt t x lo hi mx) v := by
  unfold sliceD at h
  split at h
  · rename_i el a n c hd
    split at h
    · rename_i sz _ _ hs
      have hu := run_underlying (P := P) (hτ.slice hd)
      have hz := fun w => run_sizeOf (P := P) hτ hs w
      split at h
      · refine ⟨_, h, fun w => ?_⟩
        simp [Instr.sliceAt, Instr.slice, hu, hz, Instr.sliceBounds]
        intro _
        cases a <;> simp [Addr.add]
      · obtain ⟨h0, h1, hk⟩ := h
        refine ⟨_, hk, fun w => ?_⟩
        simp [Instr.sliceAt, Instr.slice, hu, hz, Instr.sliceBounds, run_sliceBound h0 h1]
      · obtain ⟨h0, h1, hk⟩ := h
        refine ⟨_, hk, fun w => ?_⟩
        simp [Instr.sliceAt, Instr.slice, hu, hz, Instr.sliceBounds, run_sliceBound h0 h1]
      · rename_i _ l _ hh
        obtain ⟨h0, h1, h2, hk⟩ := h
        refine ⟨_, hk, fun w => ?_⟩
        have h3 : l ≤ (hh.toNat : Int) := by omega
        simp [Instr.sliceAt, Instr.slice, hu, hz, Instr.sliceBounds, run_sliceBound (show 0 ≤ hh by omega) h2, run_sliceBound h0 h3]
      · exact h.elim
    · exact h.elim
  · rename_i s hd
    have hu := run_underlying (P := P) (hτ.string hd)
    split at h
    · obtain ⟨h0, h1, hk⟩ := h
      refine ⟨_, hk, fun w => ?_⟩
      simp [Instr.sliceAt, Instr.slice, hu, Instr.sliceBounds, run_sliceBound h0 h1]
    · obtain ⟨h0, h1, hk⟩ := h
      refine ⟨_, hk, fun w => ?_⟩
      simp [Instr.sliceAt, Instr.slice, hu, Instr.sliceBounds, run_sliceBound h0 h1]
    · rename_i _ l _ hh
      obtain ⟨h0, h1, h2, hk⟩ := h
      refine ⟨_, hk, fun w => ?_⟩
      have h3 : l ≤ (hh.toNat : Int) := by omega
      simp [Instr.sliceAt, Instr.slice, hu, Instr.sliceBounds, run_sliceBound (show 0 ≤ hh by omega) h2, run_sliceBound h0 h3]
    · exact h.elim
  · exact h.elim
theorem minD_sound (ats : Array Nat) (t : Nat) (x y : Value) (K : Value → Prop) (h : minD x y K) : ∃ v, K v ∧ Yld P (Builtin.min_ ats t #[x, y]) v := by
  unfold minD at h
  split at h
  · exact ⟨_, h, fun w => by simp [Builtin.min_, Builtin.min2]⟩
  · exact h.elim
theorem maxD_sound (ats : Array Nat) (t : Nat) (x y : Value) (K : Value → Prop) (h : maxD x y K) : ∃ v, K v ∧ Yld P (Builtin.max_ ats t #[x, y]) v := by
  unfold maxD at h
  split at h
  · exact ⟨_, h, fun w => by simp [Builtin.max_, Builtin.max2]⟩
  · exact h.elim
theorem len'_eq : ∀ l : List Value, len' l = l.length
  | [] => rfl
  | _ :: l => by simp [len', len'_eq l]
theorem splice_eq (cs : List Value) : ∀ (cells : List Value) (off k : Nat),
    (cs.zipIdx k).foldl (fun (a : Array Value) (x : Value × Nat) => a.setIfInBounds (off + x.2) x.1) cells.toArray = (splice cells (off + k) cs).toArray := by
  induction cs with
  | nil => intro cells off k; rfl
  | cons c cs ih =>
    intro cells off k
    simp only [List.zipIdx_cons, List.foldl_cons, splice]
    have : cells.toArray.setIfInBounds (off + k) c = (wr cells (off + k) c).toArray := by simp [wr_eq]
    rw [this]
    exact ih _ off (k + 1)
theorem length_splice (cs : List Value) : ∀ (cells : List Value) (off : Nat), (splice cells off cs).length = cells.length := by
  induction cs with
  | nil => intro cells off; rfl
  | cons c cs ih => intro cells off; simp [splice, ih, length_wr]
theorem fillD_sound (pl : List (Nat × Nat)) : ∀ (parts : List (Nat × Value)) (cells : List Value) (K : List Value → Prop), fillD pl cells parts K →
    ∃ l, K l ∧ Instr.fill (pl.toArray[·]?) cells.toArray parts = some l.toArray := by
  intro parts
  induction parts with
  | nil => intro cells K h; exact ⟨cells, h, rfl⟩
  | cons p r ih =>
    obtain ⟨i, v⟩ := p
    intro cells K h
    unfold fillD at h
    split at h
    · rename_i off size hp
      rw [nthP_eq] at hp
      unfold Instr.fill
      have hp' : pl.toArray[i]? = some (off, size) := by simpa using hp
      simp only [hp']
      split at h
      · rename_i cs
        obtain ⟨⟨h1, h2⟩, h⟩ := h
        rw [len'_eq] at h1 h2
        simp only [Array.length_toList] at h1
        obtain ⟨l, hk, hl⟩ := ih _ K h
        refine ⟨l, hk, ?_⟩
        have hs : (Value.agg cs).cells = cs := rfl
        rw [hs, if_neg (by simp; omega), ← hl]
        congr 1
        have := splice_eq cs.toList cells off 0
        simp only [Nat.add_zero] at this
        rw [← this, ← Array.foldl_toList]
        simp [Array.toList_zipIdx]
      · rename_i hne
        obtain ⟨⟨h1, h2⟩, h⟩ := h
        rw [len'_eq] at h2
        obtain ⟨l, hk, hl⟩ := ih _ K h
        refine ⟨l, hk, ?_⟩
        have hs : v.cells = #[v] := by cases v <;> first | rfl | exact (hne _ rfl).elim
        subst h1
        rw [hs, if_neg (by simp; omega), ← hl]
        congr 1
        simp [wr_eq]
    · exact h.elim
theorem sizesOf_sound (hτ : τ.Ok P) : ∀ (fs : List Field) (l : List (Nat × Nat)), sizesOf τ (fs.map fun f => (f.offset, f.type)) = some l → ∀ w,
    (fs.mapM (m := Sem) fun f => do pure (f.offset, ← sizeOf f.type)).run P w = .ok l w := by
  intro fs
  induction fs with
  | nil => intro l h w; simp [sizesOf] at h; subst h; rfl
  | cons f r ih =>
    intro l h w
    simp only [List.map_cons] at h
    unfold sizesOf at h
    split at h
    · rename_i n _ _ l' h1 h2
      injection h with h
      subst h
      simp only [List.mapM_cons, Sem.run_bind, run_sizeOf hτ h1, Result.andThen_ok, Sem.run_pure, ih _ h2 w]
    · cases h
theorem buildD_sound (hτ : τ.Ok P) (t : Nat) (parts : Array (Nat × Value)) (K : Value → Prop) (h : buildD τ t parts.toList K) :
    ∃ v, K v ∧ Yld P (Instr.build t parts) v := by
  unfold buildD at h
  split at h
  · rename_i fs0 _ _ z hd hs
    obtain ⟨fs, hu, rfl⟩ := hτ.struct hd
    split at h
    · rename_i l hl
      obtain ⟨cells, hk, hf⟩ := fillD_sound _ _ _ _ h
      obtain ⟨i, hi, _, _, _, zv, hz, hzc⟩ := hτ.siz _ _ _ _ hs
      refine ⟨_, hk, fun w => ?_⟩
      have hm : (fs.mapM (m := Sem) fun f => do pure (f.offset, ← sizeOf f.type)).run P w = .ok l.toArray w := by
        rw [← Array.toArray_toList (xs := fs), List.mapM_toArray]
        simp only [Sem.run_map, sizesOf_sound hτ _ _ hl w, Result.andThen_ok]
      unfold Instr.build
      simp only [Sem.run_bind, zeroValue, typeInfo, run_program, hi, hz, Result.andThen_ok, Sem.run_pure, run_underlying hu, hm, hzc, hf]
    · exact h.elim
  · exact h.elim

theorem pureD_sound (hτ : τ.Ok P) (o : Oper) (e : Env) (K : Value → Prop) (h : pureD τ o.op e K) :
    ∃ v, K v ∧ ∀ w, (execOp (ev e) o).run P w = .ok (.value v) w := by
  have lift : ∀ (m : Sem Value), (∃ v, K v ∧ Yld P m v) → (∀ w, (execOp (ev e) o).run P w = (do pure (Next.value (← m)) : Sem Next).run P w) →
      ∃ v, K v ∧ ∀ w, (execOp (ev e) o).run P w = .ok (.value v) w := by
    rintro m ⟨v, hk, hv⟩ heq
    exact ⟨v, hk, fun w => by rw [heq]; simp [hv w]⟩
  unfold pureD at h
  split at h
  · rename_i x ho; exact ⟨_, h, fun w => by simp [execOp, ho]⟩
  · rename_i x ho; exact ⟨_, h, fun w => by simp [execOp, ho]⟩
  · rename_i c a b ho
    split at h
    · rename_i c' hc
      exact ⟨_, pickD_sound _ _ _ _ h, fun w => by simp [execOp, ho, hc, asBool]⟩
    · exact h.elim
  · rename_i op t x y yt ho
    exact lift _ (binX_sound hτ op t x y _ _ (fun v hv => by subst hv; rfl) K h) fun w => by simp [execOp, ho]
  · rename_i op t x ho
    exact lift _ (unD_sound op _ K h) fun w => by simp [execOp, ho]
  · rename_i s d x ho
    exact lift _ (convD_sound hτ s d _ K h) fun w => by simp [execOp, ho]
  · rename_i x i ho
    exact lift _ (extractD_sound _ i K h) fun w => by simp [execOp, ho]
  · rename_i t x i ho
    exact lift _ (fieldD_sound hτ t _ i K h) fun w => by simp [execOp, ho]
  · rename_i t x i ho
    exact lift _ (fieldAddrD_sound hτ t _ i K h) fun w => by simp [execOp, ho]
  · rename_i t x i ho
    exact lift _ (indexAddrD_sound hτ t _ _ K h) fun w => by simp [execOp, ho]
  · rename_i t x i ho
    exact lift _ (indexD_sound hτ t _ _ K h) fun w => by simp [execOp, ho]
  · rename_i t x lo hi mx ho
    exact lift _ (sliceD_sound hτ t _ _ _ _ K h) fun w => by simp [execOp, ho]
  · rename_i x ho
    unfold nilCheckD at h
    split at h
    · rename_i a hx
      obtain ⟨p, rfl, hk⟩ := h
      exact ⟨_, hk, fun w => by simp [execOp, ho, hx]⟩
    · rename_i f fi ca hx
      exact ⟨_, h, fun w => by simp [execOp, ho, hx]⟩
    · exact h.elim
  · rename_i t parts ho
    refine lift _ (buildD_sound hτ t (parts.map fun p => (p.1, ev e p.2)) K (by simpa using h)) fun w => by simp [execOp, ho]
  · rename_i fn first cap ho
    exact ⟨_, h, fun w => by simp [execOp, ho, Instr.makeFunc]⟩
  · rename_i t x ho
    unfold mkIfD at h
    split at h
    · rename_i hd
      exact ⟨_, h, fun w => by simp [execOp, ho, Instr.makeInterface, run_underlying (hτ.pointer hd)]⟩
    · rename_i hd
      exact ⟨_, h, fun w => by simp [execOp, ho, Instr.makeInterface, run_underlying (hτ.int hd)]⟩
    · exact h.elim
  · rename_i c ho
    obtain ⟨callee, args, ats⟩ := c
    obtain ⟨args⟩ := args
    obtain ⟨ats⟩ := ats
    simp only [] at h
    split at h
    · refine lift _ (lenD_sound hτ _ o.type _ K h) fun w => by simp_all [execOp, resolve, invoke, builtin]
    · refine lift _ (capD_sound hτ _ o.type _ K h) fun w => by simp_all [execOp, resolve, invoke, builtin]
    · refine lift _ (minD_sound ats.toArray o.type _ _ K h) fun w => by simp_all [execOp, resolve, invoke, builtin]
    · refine lift _ (maxD_sound ats.toArray o.type _ _ K h) fun w => by simp_all [execOp, resolve, invoke, builtin]
    · exact h.elim
  · exact h.elim
end
end Go.Proofs.YtihnjjmbcbfheaaDoor.V
