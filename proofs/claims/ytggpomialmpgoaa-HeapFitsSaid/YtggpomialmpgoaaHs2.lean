/-
  Law HeapFits: the walk.
-/
import Derived.Test.YtggpomialmpgoaaHs1
import Derived.Test.YtggpomialmpgoaaHf1
namespace Go.Proofs.Ytggpomialmpgoaa.V
open Go Go.RowKit
set_option linter.unusedVariables false
set_option linter.unusedSimpArgs false
set_option maxRecDepth 100000

/-- the i-th object: its number in its first and its last cell -/
def rO (n : Nat) (hn : n ≤ 1000) (i : Nat) : Th :=
  ⟨⟨2, 9, n, 0⟩, fun _ => none, fun a => if a = 0 ∨ a = n - 1 then i else 0, ⟨by dsimp only; omega, by dsimp only; omega, by dsimp only; omega, .inr ⟨.inl rfl, by dsimp only; omega, rfl⟩⟩, fun i _ k h => (by cases h), fun a _ _ h => (by
    have : refT ⟨2, 9, n, 0⟩ a = false := rfl
    rw [this] at h; cases h)⟩
theorem rO_len (n : Nat) (hn : n ≤ 1000) (i : Nat) : lenT (rO n hn i) = n := by show ((n : Nat) : Int).toNat = n; exact Int.toNat_natCast n
structure Fi (w : World) (x b g r B : Nat) (n W : Nat) (hn : n ≤ 1000) (fl : List Int) (zero fresh rm : Bool) (i : Nat) (s : Sl) (held : List Nat) : Prop where
  ex : ∃ f order A co cp, HpW w x b g r ⟨A, fl, zero, fresh, i, co, cp⟩ ∧ Laid (rO n hn) 0 W f order (pNew (rO n hn) f order) A ∧ A.use.e = f + szQ (rO n hn) order ∧ (rm = true → szQ (rO n hn) order + n + 2 ≤ W) ∧ (∀ j ∈ order, j < i) ∧ (∀ j ∈ held, j ∈ order) ∧ Tl w B 35 s (uv (held.map fun j => pNew (rO n hn) f order j + 1))
  nd : held.Nodup
section
variable {w w' : World} {x b g r B n W : Nat} {hn : n ≤ 1000} {fl : List Int} {zero fresh rm : Bool} {i : Nat} {s sz : Sl} {held : List Nat}
theorem Fi.ext (h : Fi w x b g r B n W hn fl zero fresh rm i s held) (u : Ext w w') : Fi w' x b g r B n W hn fl zero fresh rm i s held := by
  obtain ⟨f, order, A, co, cp, h1, h2, h3, h4, h5, h6, h7⟩ := h.ex
  exact ⟨⟨f, order, A, co, cp, h1.ext u, h2, h3, h4, h5, h6, h7.ext u⟩, h.nd⟩
theorem Fi.lt (h : Fi w x b g r B n W hn fl zero fresh rm i s held) : x < w.heap.size ∧ b < w.heap.size ∧ g < w.heap.size ∧ r < w.heap.size ∧ held.length = s.n ∧ (∀ p, s.a = some p → B ≤ p.block ∧ p.block < w.heap.size) := by
  obtain ⟨f, order, A, co, cp, h1, h2, h3, h4, h5, h6, h7⟩ := h.ex
  have := h1.lt
  have hl := h7.len
  rw [uv_length, List.length_map] at hl
  exact ⟨this.1, this.2.1, this.2.2.1, this.2.2.2, hl, h7.base⟩
theorem Fi.due (h : Fi w x b g r B n W hn fl zero false rm i s held) :
    Calls Try.prog 11 #[.pointer (some ⟨x, 0, none⟩), hdV ⟨2, 9, (n : Nat), 0⟩] w fun e w' => ∃ bb : Bool, e = .returned (.bool bb) ∧ Ext w w' ∧ (bb = false → Fi w' x b g r B n W hn fl zero false true i s held) := by
  have hnd := h.nd
  obtain ⟨f, order, A, co, cp, h1, h2, h3, h4, h5, h6, h7⟩ := h.ex
  refine (due_spec h1 ⟨2, 9, (n : Nat), 0⟩).mono ?_
  rintro e w' ⟨rfl, x'⟩
  refine ⟨_, rfl, x', fun hbb => ⟨⟨f, order, A, co, cp, h1.ext x', h2, h3, fun _ => ?_, h5, h6, h7.ext x'⟩, hnd⟩⟩
  have hm : mayT ⟨2, 9, (n : Nat), 0⟩ = true := decide_eq_true (rO n hn 0).may
  by_cases hi : (i : Int) ∈ fl
  · rw [dueT_forced hm rfl hi] at hbb; cases hbb
  · rw [dueT_room hm rfl hi] at hbb
    have := of_decide_eq_false hbb
    unfold Ar.left at this
    dsimp only at this
    rw [h3, h2.uf, h2.nn] at this
    have hfit := h2.fit
    omega
theorem Fi.make (h : Fi w x b g r B n W hn fl zero fresh true i s held) (hi : i ≤ 1000000) (hsm : s.n ≤ 1000000) {cs : List Nat} (hcl : cs.length = n) (hcs : ∀ a, a < n → cs[a]? = some (if a = 0 ∨ a = n - 1 then i else 0))
    (hz : Rd w 1 sz (uv cs)) (hoff : sz.off fun k => k = b ∨ k = g) (hB : x < B ∧ b < B ∧ g < B ∧ r < B ∧ B ≤ w.heap.size) :
    Calls Try.prog 14 #[.pointer (some ⟨x, 0, none⟩), hdV ⟨2, 9, (n : Nat), 0⟩, .slice sz.a sz.n sz.c] w fun e w' => ∃ v : Nat, e = .returned (.tuple #[.int .u64 (v : Nat), .int .i64 0]) ∧ Upd (fun k => k = b ∨ k = g ∨ k = x) w w' ∧
      ∀ w1, NewW w' (.cells #[.int .u64 (v : Nat)] 35) w1 → ∃ s' w2, Runs Try.prog (Builtin.append_ #[38, 38] 38 #[.slice s.a s.n s.c, .slice (some ⟨w'.heap.size, 0, none⟩) 1 1]) w1 (.slice s'.a s'.n s'.c) w2 ∧ s'.n = s.n + 1 ∧
        Fi w2 x b g r B n W hn fl zero false false (i + 1) s' (held ++ [i]) ∧ Upd (fun k => ∃ p, s.a = some p ∧ k = p.block) w' w2 ∧ (s'.n ≤ s'.c) := by
  have hlt := h.lt
  have hnd := h.nd
  obtain ⟨f, order, A, co, cp, h1, h2, h3, h4, h5, h6, h7⟩ := h.ex
  have hlen : lenT (rO n hn i) = n := rO_len n hn i
  have hy : ∀ y ∈ cs, y < 18446744073709551616 := fun y hy => by
    obtain ⟨a, ha, rfl⟩ := List.getElem_of_mem hy
    have := hcs a (by omega)
    rw [List.getElem?_eq_getElem ha] at this
    injection this with this
    rw [this]
    split <;> omega
  have hr4 := h4 rfl
  obtain ⟨A', eM, L', ue', hpn⟩ := h2.make' h3 (j := i) (fun hm => by have := h5 i hm; omega) (by rw [hlen]; omega) (fun a _ k hk => by cases hk) (cs := cs) (by rw [hlen]; exact hcl) (fun a ha => by
    rw [hlen] at ha
    rw [hcs a ha]; rfl) hy
  have hHd : hdrT (rO n hn i) = ⟨2, 9, (n : Nat), 0⟩ := rfl
  rw [hHd] at eM
  refine (makeH_spec h1 ⟨2, 9, (n : Nat), 0⟩ hz hoff (by omega) hy).mono ?_
  rintro e w' ⟨rfl, H', u'⟩
  have eM' : makeT (Hp.mk A fl zero fresh i co cp).A ⟨2, 9, (n : Nat), 0⟩ cs = (A', pNew (rO n hn) f (order ++ [i]) i + 1, 0) := eM
  have eH : mkT ⟨A, fl, zero, fresh, i, co, cp⟩ ⟨2, 9, (n : Nat), 0⟩ cs = ⟨A', fl, zero, false, ((i + 1 : Nat) : Int), co, cp⟩ := by
    unfold mkT
    rw [eM', if_pos rfl]
    have : IntKind.i64.wrap ((i : Int) + 1) = ((i + 1 : Nat) : Int) := by rw [wrap_i64 (by omega) (by omega)]; omega
    show Hp.mk A' fl zero false (IntKind.i64.wrap ((i : Int) + 1)) co cp = _
    rw [this]
  rw [eH] at H'
  rw [eM']
  refine ⟨_, rfl, u', fun w1 n1 => ?_⟩
  have z' := u'.size; have z1 := n1.size
  have hbase := h7.base
  have t1 := (h7.upd u' (fun q hq e => by have := hbase q hq; omega)).ext n1.ext
  have hBw : B ≤ w1.heap.size := by omega
  obtain ⟨s', w2, hr, hrn, t2, u2, c2⟩ := t1.append1 (P := Try.prog) tab_ok (t := 38) (ty := 38) (by rfl) (by rfl) (ad := ⟨w'.heap.size, 0, none⟩) (v := .int .u64 ((pNew (rO n hn) f (order ++ [i]) i + 1 : Nat) : Int)) ((Blk.new n1).cell 0) trivial (by omega) (by omega) hBw
  have H2 := (H'.ext n1.ext).upd u2 (by rintro ⟨q, hq, e⟩; have := hbase q hq; omega) (by rintro ⟨q, hq, e⟩; have := hbase q hq; omega) (by rintro ⟨q, hq, e⟩; have := hbase q hq; omega) (by rintro ⟨q, hq, e⟩; have := hbase q hq; omega)
  have hni : i ∉ held := fun hm => by have := h5 i (h6 i hm); omega
  refine ⟨s', w2, hr, hrn, ⟨⟨f, order ++ [i], A', co, cp, H2, L', ue', fun h => (by cases h), fun j hj => ?_, fun j hj => ?_, ?_⟩, ?_⟩, n1.ext.toS.trans u2 fun _ _ hn => ⟨hn, hn⟩, t2.cap.1⟩
  · rcases List.mem_append.1 hj with hj | hj
    · have := h5 j hj; omega
    · rw [List.mem_singleton.1 hj]; omega
  · rcases List.mem_append.1 hj with hj | hj
    · exact List.mem_append_left _ (h6 j hj)
    · exact List.mem_append_right _ hj
  · have e1 : (held ++ [i]).map (fun j => pNew (rO n hn) f (order ++ [i]) j + 1) = held.map (fun j => pNew (rO n hn) f order j + 1) ++ [pNew (rO n hn) f (order ++ [i]) i + 1] := by
      rw [List.map_append]
      congr 1
      refine List.map_congr_left fun j hj => ?_
      rw [hpn j (h6 j hj)]
    rw [e1, uv_append]
    exact t2
  · rw [List.nodup_append]
    refine ⟨hnd, by simp, fun a ha c hc => ?_⟩
    rw [List.mem_singleton.1 hc]; rintro rfl; exact hni ha
theorem Fi.collect (h : Fi w x b g r B n W hn fl zero fresh rm i s held) (hroom : (held.length + 1) * (n + 2) ≤ W) (hsm : s.n ≤ 1000000) (hB : x < B ∧ b < B ∧ g < B ∧ r < B ∧ B ≤ w.heap.size) :
    Calls Try.prog 12 #[.pointer (some ⟨x, 0, none⟩), .slice s.a s.n s.c] w fun e w' => ∃ (nb : Nat) (ls : List Nat) (A' : Ar) (H' : Hp), e = .returned (.tuple #[.slice (some ⟨nb, 0, none⟩) held.length held.length, .int .i64 0]) ∧ Upd (fun k => k = b ∨ k = g ∨ k = x) w w' ∧ Blk w' nb 35 (uv ls) ∧ ls.length = held.length ∧ w.heap.size ≤ nb ∧
      HpW w' x b g r H' ∧ H'.A.use.e - H'.A.use.f = held.length * (n + 2) ∧
      ∀ w2 s', Ext w' w2 → Tl w2 B 35 s' (uv ls) → Fi w2 x b g r B n W hn fl zero true true i s' held := by
  have hlt := h.lt
  have hnd := h.nd
  obtain ⟨f, order, A, co, cp, h1, h2, h3, h4, h5, h6, h7⟩ := h.ex
  have hro : ∀ o ∈ held.map some, ∀ j, o = some j → j ∈ order := by
    intro o ho j hj
    obtain ⟨k, hk, rfl⟩ := List.mem_map.1 ho
    injection hj with hj; subst hj; exact h6 k hk
  have hrd := h7.rd
  rw [← map_rv] at hrd
  refine (collectH_spec h1 h2.opn hrd (fun q hq => by have := h7.base q hq; omega) (h2.rv_lt hro) (by rw [List.length_map, List.length_map]; omega)).mono ?_
  rintro e w' (⟨hno, _⟩ | ⟨_, nb, rfl, H', nb', hnb, u'⟩)
  · rw [h2.okR hro] at hno; cases hno
  obtain ⟨Q, hw, hq, eC, L', ue', _, _⟩ := collect_laid h2 (held.map some) hro zero
  have eQ : Q = held := by
    rw [hw.plain (fun _ _ => rfl)]
    have := fold_nodup held [] (by simpa using hnd)
    simpa using this
  subst eQ
  have esz : szQ (rO n hn) Q = Q.length * (n + 2) := szQ_eq (rO_len n hn) Q
  have hexp : (Q.length + 1) * (n + 2) = Q.length * (n + 2) + (n + 2) := by rw [Nat.add_mul, Nat.one_mul]
  have eu : (collectT A ((Q.map some).map (rv (pNew (rO n hn) f order))) zero).1.use.e - (collectT A ((Q.map some).map (rv (pNew (rO n hn) f order))) zero).1.use.f = Q.length * (n + 2) := by
    rw [ue', L'.uf, esz]; omega
  have e2 : (collectT (Hp.mk A fl zero fresh i co cp).A ((Q.map some).map (rv (pNew (rO n hn) f order))) (Hp.mk A fl zero fresh i co cp).zero).2 = (Q.map some |>.map (rv (pNew (rO n hn) (W - f) Q)), 0) := eC
  rw [e2] at nb' ⊢
  have el : ((Q.map some).map (rv (pNew (rO n hn) f order))).length = Q.length := by rw [List.length_map, List.length_map]
  rw [el]
  dsimp only at nb'
  rw [map_rv] at nb'
  refine ⟨nb, _, A, _, rfl, u', nb', by rw [List.length_map], hnb, H', eu, fun w2 s' x2 t2 => ⟨⟨_, Q, _, _, _, H'.ext x2, L', ue', fun _ => by omega, fun j hj => h5 j (h6 j hj), fun j hj => hj, t2⟩, hnd⟩⟩
end
end Go.Proofs.Ytggpomialmpgoaa.V
