/-
  LebPuts: the row's step.
-/
import Derived.Test.YtbkoagepkjpalaaLebP
import Derived.Test.YtbkoagepkjpalaaLebARow
import Derived.ChangeSlices
import Derived.SizedLaws
namespace Go.Proofs.Ytbkoagepkjpalaa.V
open Go Go.ChangeShapes Go.WideShapes Go.ChangeAt Go.RowKit
set_option linter.unusedVariables false

theorem open_nums {H : Type} {enc : TypeId × Value → H} {P : Program} {w : World} {t e : TypeId} {k : IntKind} {r : Reach} {b0 : Nat} {v : Value} {d : DataW H} {ps : List MemPlace}
    (ht : P.underlying t = some (.slice e)) (he : P.underlying e = some (.int k)) (hc : P.cellsOf e = 1)
    (hval : Value.okWide P w r b0 t v) (h : DataW.Trod enc P w 0 (fun _ => true) true t v d ps) :
    ∃ (s : Sl) (zs : List Int), v = .slice s.a s.n s.c ∧ Rd w 1 s ((zs.take s.n).map (Value.int k)) ∧ (∀ n ∈ zs, (Lit.int k n).wf = true) ∧
      (s.n = 0 ∨ ∃ el sp, d = .slice el sp ∧ s.n ≤ el.length + sp.length) ∧
      ∀ W' : World, Ext w W' → ∀ sp : Nat → Bool, (∀ p ∈ ps, sp p.block = true) → DataW.Trod enc P W' 0 sp true t v d ps := by
  obtain ⟨a0, len, cap, rfl⟩ := okWide_slice ht hval
  obtain ⟨fuel, hf⟩ := h
  rcases open_ints ht he hc hf with ⟨hcs, hx⟩ | ⟨a, len', cap', zs, hcs, _, hl, hm, hz, hx, hcell, hwz⟩
  · simp [Value.cells] at hcs
    obtain ⟨rfl, rfl, rfl⟩ := hcs
    simp only [Prod.mk.injEq] at hx
    obtain ⟨rfl, rfl⟩ := hx
    exact ⟨⟨none, 0, 0⟩, [], rfl, Rd.nil _ _ _ _, by simp, .inl rfl, fun W' _ sp _ => shut_slice_nil ht⟩
  · simp [Value.cells] at hcs
    obtain ⟨rfl, rfl, rfl⟩ := hcs
    simp only [Prod.mk.injEq] at hx
    obtain ⟨rfl, rfl⟩ := hx
    simp only [if_true] at hz
    refine ⟨⟨some a, len, cap⟩, zs, rfl, ⟨by simp; omega, fun _ => ⟨a, rfl, ?_⟩⟩, hwz, .inr ⟨_, _, rfl, by simp [lits]; omega⟩, fun W' x sp hsp => ?_⟩
    · intro j v hj
      rw [List.getElem?_map] at hj
      obtain ⟨z, hz1, rfl⟩ := Option.map_eq_some_iff.1 hj
      rw [List.getElem?_take] at hz1
      split at hz1
      · have hj' := (List.getElem?_eq_some_iff.1 hz1).1
        rw [hcell j hj', List.getD, hz1]
        rfl
      · cases hz1
    · have hcell' : ∀ i, i < zs.length → W'.cell? (a.add i) = some (.int k (zs.getD i 0)) := fun i hi => Upd.cell x (hcell i hi) not_false
      have hsz : zs.length = (if sp a.block then cap else len) := by
        by_cases hz0 : zs.length = 0
        · split <;> omega
        · have hspb : sp a.block = true := hsp (.cell a.block a.off) (MemPlace.mem_row.2 ⟨0, by omega, by simp⟩)
          rw [hspb, hz]
          rfl
      have t0 := shut_ints (enc := enc) (w := W') (base := 0) (spare := sp) (held := true) (a := a) (len := len) (cap := cap) (zs := zs) 0 ht he hc (Nat.zero_le _) hl hm hsz hcell' hwz
      exact ⟨2, by simpa [Value.cells] using t0⟩

theorem nats_bytes : ∀ (zs : List Int), (∀ n ∈ zs, (Lit.int .u8 n).wf = true) → zs.map (Value.int .u8) = bv (zs.map Int.toNat)
  | [], _ => rfl
  | z :: zs, h => by
    have hz : 0 ≤ z ∧ z ≤ 255 := by simpa [Lit.wf, IntKind.min, IntKind.max, IntKind.signed, IntKind.bits] using h z (by simp)
    have ih := nats_bytes zs (fun n hn => h n (by simp [hn]))
    simp only [List.map_cons, bv] at ih ⊢
    rw [ih, Int.toNat_of_nonneg hz.1]

theorem lebputs_walk (s : Sl) (zs : List Int) (a1 a2 : Int) (w : World) (hr : Rd w 1 s ((zs.take s.n).map (Value.int .u8))) (hz : ∀ n ∈ zs, (Lit.int .u8 n).wf = true) (hl : s.n ≤ 140737488354000) (w1 : (Lit.int .u64 a1).wf = true) (w2 : (Lit.int .i64 a2).wf = true) :
    Calls Try.prog 3 #[.slice s.a s.n s.c, .int .u64 a1, .int .i64 a2] w fun e w' => e = .returned (.bool true) ∧ Ext w w' := by
  have h1 : 0 ≤ a1 ∧ a1 ≤ 18446744073709551615 := by simpa [Lit.wf, IntKind.min, IntKind.max, IntKind.signed, IntKind.bits] using w1
  have h2 : -9223372036854775808 ≤ a2 ∧ a2 ≤ 9223372036854775807 := by simpa [Lit.wf, IntKind.min, IntKind.max, IntKind.signed, IntKind.bits] using w2
  obtain ⟨n, rfl⟩ := Int.eq_ofNat_of_zero_le h1.1
  rw [nats_bytes _ (fun n hn => hz n (List.mem_of_mem_take hn))] at hr
  exact lebputs_spec s _ n a2 w hr hl (by omega) h2.1 h2.2

set_option maxRecDepth 100000 in
theorem lebputs_lifted (os : Os) (started : os.Started) (H : Type) (enc : TypeId × Value → H) :
    ReturnsInHanded {} Try.checked os 3 .any (Rows.lebPutsSpec.pre6 enc Try.prog Try.f3 Rows.lebPutsRow.domain false) (Rows.lebPutsSpec.post enc Try.prog Try.f3 false true false false) := by
  refine returnsInHanded_of_change_sized (C := Try.checked) own started (by kernel_rfl) Try.func3
    (ChangeSpec.witness6 (enc := enc) (C := Try.checked) false ⟨#[], #[.slice none 0 0, .int .u64 0, .int .i64 0], []⟩ 8 (by kernel_rfl) (by kernel_rfl) (by kernel_rfl) (by kernel_rfl)) ?_
  intro W base args ds gs before hval0 hW hcnd hsz _
  have hval : ∀ (j : Nat) t v, Try.f3.params[j]? = some t → args[j]? = some v → Value.okWide Try.prog W .any base t v := hval0
  have hW' := hW
  obtain ⟨p, q, hA0, hV, rfl, hfz, hnd⟩ := hW
  have hA : DataW.TrodAll enc Try.prog W 0 (fun _ => true) true Try.f3.params.toList args.toList ds p := hA0
  rw [Try.params3] at hA hval
  obtain ⟨v0, vs0, d0, ds0, p0, q0, hargs, rfl, rfl, h0, r0⟩ := trodAll_cons hA
  obtain ⟨v1, vs1, d1, ds1, p1, q1, rfl, rfl, rfl, h1, r1⟩ := trodAll_cons r0
  obtain ⟨v2, vs2, d2, ds2, p2, q2, rfl, rfl, rfl, h2, r2⟩ := trodAll_cons r1
  obtain ⟨rfl, rfl, rfl⟩ := trodAll_nil r2
  obtain rfl : args = #[v0, v1, v2] := by cases args; simp_all
  obtain ⟨rfl, rfl⟩ := trodVars_none hV
  obtain ⟨s, zs, rfl, hr, hz, hn, again⟩ := open_nums Try.underlying22 Try.underlying5 (by kernel_rfl) (hval 0 22 v0 rfl rfl) h0
  obtain ⟨a1, rfl, rfl, rfl, w1⟩ := open_int Try.underlying23 (hval 1 23 v1 rfl rfl) h1
  obtain ⟨a2, rfl, rfl, rfl, w2⟩ := open_int Try.underlying2 (hval 2 2 v2 rfl rfl) h2
  have hl : s.n ≤ 140737488354000 := by
    rcases hn with h | ⟨el, sp, rfl, h⟩
    · omega
    · have := sized_slice hsz (j := 0) (t := 22) (e := 5) (elems := el) (spare := sp) (by kernel_rfl) rfl Try.underlying22
      rw [show Try.checked.prog.bytesOf 5 = 1 by kernel_rfl] at this
      have e : reachBytes = 140737488351232 := by decide
      omega
  clear hA0 hval0
  simp only [List.append_nil] at hW'
  refine (lebputs_walk s zs a1 a2 W hr hz hl w1 w2).mono fun e W' ⟨he, hg⟩ => ?_
  subst he
  exact ⟨_, rfl, post_of_below (pa := p0 ++ ([] ++ ([] ++ []))) (pv := []) hW' (fun _ _ _ => (trodAll_cons_mk (shut_bool Try.underlying4 _) trodAll_mk0)) (fun sp hsp => trodAll_cons_mk (again W' hg sp hsp) (trodAll_cons_mk (shut_int Try.underlying23 w1) (trodAll_cons_mk (shut_int Try.underlying2 w2) trodAll_mk0))) (fun _ _ => rfl) (by simp)
    (Upd.below hg) (ok_one (by kernel_rfl) rfl (okWide_bool_mk Try.underlying4 _))⟩

theorem lebputs_over : Rows.lebPutsRow.holds Try.pinned (OpenSpec.ofChange Rows.lebPutsSpec) :=
  OpenClaim.holds_of_wide 3 Try.f3 rfl rfl rfl rfl rfl rfl rfl ⟨rfl, rfl, rfl, rfl, rfl⟩ rfl rfl rfl rfl rfl (by kernel_rfl) Try.func3 (by kernel_rfl)
    (of_decide_eq_true (by kernel_rfl)) (by unfold Func.isWrapper; first | (rw [if_pos (by decide +kernel)]; kernel_rfl) | (rw [if_neg (by decide +kernel)]; exact ⟨rfl, rfl⟩))
    (fun os started H enc _ => lebputs_lifted os started H enc)

theorem lebputs_holds : Rows.LebPutsSaid := lebputs_over
#print axioms lebputs_holds
end Go.Proofs.Ytbkoagepkjpalaa.V
