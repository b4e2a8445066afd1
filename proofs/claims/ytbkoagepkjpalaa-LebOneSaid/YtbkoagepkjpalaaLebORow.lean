/-
  LebOne: the row's step.
-/
import Derived.Test.YtbkoagepkjpalaaLebOW
import Derived.Test.YtbkoagepkjpalaaLebPRow
namespace Go.Proofs.Ytbkoagepkjpalaa.V
open Go Go.ChangeShapes Go.WideShapes Go.ChangeAt Go.RowKit
set_option linter.unusedVariables false

theorem cap_of_trod {H : Type} {enc : TypeId × Value → H} {P : Program} {w : World} {t e : TypeId} {k : IntKind} {s : Sl} {d : DataW H} {ps : List MemPlace}
    (ht : P.underlying t = some (.slice e)) (he : P.underlying e = some (.int k)) (hc : P.cellsOf e = 1) (h : DataW.Trod enc P w 0 (fun _ => true) true t (.slice s.a s.n s.c) d ps) : s.n ≤ s.c := by
  obtain ⟨fuel, hf⟩ := h
  rcases open_ints ht he hc hf with ⟨hcs, hx⟩ | ⟨a, len', cap', zs, hcs, _, hl, hm, hz, hx, hcell, hwz⟩
  · simp [Value.cells] at hcs
    omega
  · simp [Value.cells] at hcs
    omega

theorem lebone_walk (s : Sl) (zs : List Int) (a2 : Int) (w : World) (hr : Rd w 1 s ((zs.take s.n).map (Value.int .u8))) (hz : ∀ n ∈ zs, (Lit.int .u8 n).wf = true) (hl : s.n ≤ 140737488354000) (hc : s.n ≤ s.c) (w2 : (Lit.int .i64 a2).wf = true) :
    Calls Try.prog 5 #[.slice s.a s.n s.c, .int .i64 a2] w fun e w' => e = .returned (.bool true) ∧ Ext w w' := by
  have h2 : -9223372036854775808 ≤ a2 ∧ a2 ≤ 9223372036854775807 := by simpa [Lit.wf, IntKind.min, IntKind.max, IntKind.signed, IntKind.bits] using w2
  rw [nats_bytes _ (fun n hn => hz n (List.mem_of_mem_take hn))] at hr
  refine lebone_spec s _ a2 w hr hl hc ?_ h2.1 h2.2
  intro x hx
  obtain ⟨y, hy, rfl⟩ := List.mem_map.1 hx
  have hy' : 0 ≤ y ∧ y ≤ 255 := by simpa [Lit.wf, IntKind.min, IntKind.max, IntKind.signed, IntKind.bits] using hz y (List.mem_of_mem_take hy)
  omega

set_option maxRecDepth 100000 in
theorem lebone_lifted (os : Os) (started : os.Started) (H : Type) (enc : TypeId × Value → H) :
    ReturnsInHanded {} Try.checked os 5 .any (Rows.lebOneSpec.pre6 enc Try.prog Try.f5 Rows.lebOneRow.domain false) (Rows.lebOneSpec.post enc Try.prog Try.f5 false true false false) := by
  refine returnsInHanded_of_change_sized (C := Try.checked) own started (by kernel_rfl) Try.func5
    (ChangeSpec.witness6 (enc := enc) (C := Try.checked) false ⟨#[], #[.slice none 0 0, .int .i64 0], []⟩ 8 (by kernel_rfl) (by kernel_rfl) (by kernel_rfl) (by kernel_rfl)) ?_
  intro W base args ds gs before hval0 hW hcnd hsz _
  have hval : ∀ (j : Nat) t v, Try.f5.params[j]? = some t → args[j]? = some v → Value.okWide Try.prog W .any base t v := hval0
  have hW' := hW
  obtain ⟨p, q, hA0, hV, rfl, hfz, hnd⟩ := hW
  have hA : DataW.TrodAll enc Try.prog W 0 (fun _ => true) true Try.f5.params.toList args.toList ds p := hA0
  rw [Try.params5] at hA hval
  obtain ⟨v0, vs0, d0, ds0, p0, q0, hargs, rfl, rfl, h0, r0⟩ := trodAll_cons hA
  obtain ⟨v1, vs1, d1, ds1, p1, q1, rfl, rfl, rfl, h1, r1⟩ := trodAll_cons r0
  obtain ⟨rfl, rfl, rfl⟩ := trodAll_nil r1
  obtain rfl : args = #[v0, v1] := by cases args; simp_all
  obtain ⟨rfl, rfl⟩ := trodVars_none hV
  obtain ⟨s, zs, rfl, hr, hz, hn, again⟩ := open_nums Try.underlying22 Try.underlying5 (by kernel_rfl) (hval 0 22 v0 rfl rfl) h0
  obtain ⟨a2, rfl, rfl, rfl, w2⟩ := open_int Try.underlying3 (hval 1 3 v1 rfl rfl) h1
  have hl : s.n ≤ 140737488354000 := by
    rcases hn with h | ⟨el, sp, rfl, h⟩
    · omega
    · have := sized_slice hsz (j := 0) (t := 22) (e := 5) (elems := el) (spare := sp) (by kernel_rfl) rfl Try.underlying22
      rw [show Try.checked.prog.bytesOf 5 = 1 by kernel_rfl] at this
      have e : reachBytes = 140737488351232 := by decide
      omega
  have hc := cap_of_trod Try.underlying22 Try.underlying5 (by kernel_rfl) h0
  clear hA0 hval0
  simp only [List.append_nil] at hW'
  refine (lebone_walk s zs a2 W hr hz hl hc w2).mono fun e W' ⟨he, hg⟩ => ?_
  subst he
  exact ⟨_, rfl, post_of_below (pa := p0 ++ ([] ++ [])) (pv := []) hW' (fun _ _ _ => (trodAll_cons_mk (shut_bool Try.underlying4 _) trodAll_mk0)) (fun sp hsp => trodAll_cons_mk (again W' hg sp hsp) (trodAll_cons_mk (shut_int Try.underlying3 w2) trodAll_mk0)) (fun _ _ => rfl) (by simp)
    (Upd.below hg) (ok_one (by kernel_rfl) rfl (okWide_bool_mk Try.underlying4 _))⟩

theorem lebone_over : Rows.lebOneRow.holds Try.pinned (OpenSpec.ofChange Rows.lebOneSpec) :=
  OpenClaim.holds_of_wide 5 Try.f5 rfl rfl rfl rfl rfl rfl rfl ⟨rfl, rfl, rfl, rfl, rfl⟩ rfl rfl rfl rfl rfl (by kernel_rfl) Try.func5 (by kernel_rfl)
    (of_decide_eq_true (by kernel_rfl)) (by unfold Func.isWrapper; first | (rw [if_pos (by decide +kernel)]; kernel_rfl) | (rw [if_neg (by decide +kernel)]; exact ⟨rfl, rfl⟩))
    (fun os started H enc _ => lebone_lifted os started H enc)

theorem lebone_holds : Rows.LebOneSaid := lebone_over
#print axioms lebone_holds
end Go.Proofs.Ytbkoagepkjpalaa.V
