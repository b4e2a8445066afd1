/-
  Law HeapForced: the walk.
-/
import Derived.Test.YtggpomialmpgoaaHr1
import Derived.Test.YtggpomialmpgoaaTl
import Derived.Test.YtggpomialmpgoaaHp4
import Derived.Test.YtggpomialmpgoaaRow
import Derived.Test.YtggpomialmpgoaaVcD
namespace Go.Proofs.Ytggpomialmpgoaa.V
open Go Go.RowKit
set_option linter.unusedVariables false
set_option linter.unusedSimpArgs false
set_option maxRecDepth 100000

theorem newHT_of {n : Nat} {fl : List Int} {zero : Bool} (h1 : n ≤ 65536) (h2 : fl.length ≤ 65536) (h3 : ∀ m ∈ fl, 0 ≤ m) : newHT (n : Int) fl zero = some ⟨newA n, fl, zero, false, 0, 0, 0⟩ := by
  unfold newHT
  rw [if_pos ⟨by omega, by omega, h2, h3⟩, Int.toNat_natCast]
/-- an object of so many cells that are no references -/
def fO (n : Nat) (hn : n ≤ 1000) : Th :=
  ⟨⟨2, 2, n, 0⟩, fun _ => none, fun _ => 0, ⟨by dsimp only; omega, by dsimp only; omega, by dsimp only; omega, .inr ⟨.inl rfl, by dsimp only; omega, rfl⟩⟩, fun i _ k h => (by cases h), fun i _ _ h => rfl⟩
theorem fO_len (n : Nat) (hn : n ≤ 1000) : lenT (fO n hn) = n := by show ((n : Nat) : Int).toNat = n; exact Int.toNat_natCast n
theorem szQ_const {t : Th} (q : List Nat) : szQ (fun _ => t) q = q.length * (lenT t + 2) := by
  induction q with
  | nil => simp [szQ]
  | cons a q ih =>
    have e : szQ (fun _ => t) (a :: q) = lenT t + 2 + szQ (fun _ => t) q := rfl
    rw [e, ih, List.length_cons, Nat.add_mul, Nat.one_mul, Nat.add_comm]
/-- what holds of the heap and of what is held -/
structure Fo (w : World) (x b g r B : Nat) (n W : Nat) (hn : n ≤ 1000) (fl : List Int) (zero fresh : Bool) (i : Nat) (co cp : Int) (s : Sl) (held : List Nat) : Prop where
  ex : ∃ f order p A, HpW w x b g r ⟨A, fl, zero, fresh, i, co, cp⟩ ∧ Laid (fun _ => fO n hn) 0 W f order p A ∧ A.use.e = f + szQ (fun _ => fO n hn) order ∧ order.length ≤ i ∧ (∀ j ∈ order, j < i) ∧ (∀ j ∈ held, j ∈ order) ∧ Tl w B 35 s (uv (held.map fun j => p j + 1))
  nd : held.Nodup
theorem Fo.ext {w w' : World} {x b g r B n W : Nat} {hn : n ≤ 1000} {fl : List Int} {zero fresh : Bool} {i : Nat} {co cp : Int} {s : Sl} {held : List Nat} (h : Fo w x b g r B n W hn fl zero fresh i co cp s held) (u : Ext w w') : Fo w' x b g r B n W hn fl zero fresh i co cp s held := by
  obtain ⟨f, order, p, A, h1, h2, h3, h4, h5, h6, h7⟩ := h.ex
  exact ⟨⟨f, order, p, A, h1.ext u, h2, h3, h4, h5, h6, h7.ext u⟩, h.nd⟩
theorem Fo.lt {w : World} {x b g r B n W : Nat} {hn : n ≤ 1000} {fl : List Int} {zero fresh : Bool} {i : Nat} {co cp : Int} {s : Sl} {held : List Nat} (h : Fo w x b g r B n W hn fl zero fresh i co cp s held) : x < w.heap.size ∧ b < w.heap.size ∧ g < w.heap.size ∧ r < w.heap.size ∧ held.length = s.n ∧ held.length ≤ i := by
  obtain ⟨f, order, p, A, h1, h2, h3, h4, h5, h6, h7⟩ := h.ex
  have := h1.lt
  have hl := h7.len
  rw [uv_length, List.length_map] at hl
  have hle := szQ_sub (fun _ => fO n hn) held order h.nd h6
  rw [szQ_const, szQ_const] at hle
  have : held.length ≤ order.length := Nat.le_of_mul_le_mul_right hle (by omega)
  omega
/-- an object is made, and held -/
theorem Fo.make {w : World} {x b g r B n W : Nat} {hn : n ≤ 1000} {fl : List Int} {zero fresh : Bool} {i : Nat} {co cp : Int} {s sz : Sl} {held : List Nat} (h : Fo w x b g r B n W hn fl zero fresh i co cp s held) (hroom : (i + 1) * (n + 2) ≤ W) (hi : i ≤ 1000000)
    (hz : Rd w 1 sz (uv (List.replicate n 0))) (hoff : sz.off fun k => k = b ∨ k = g) (hB : x < B ∧ b < B ∧ g < B ∧ r < B ∧ B ≤ w.heap.size) :
    Calls Try.prog 14 #[.pointer (some ⟨x, 0, none⟩), hdV ⟨2, 2, (n : Nat), 0⟩, .slice sz.a sz.n sz.c] w fun e w' => ∃ v : Nat, e = .returned (.tuple #[.int .u64 (v : Nat), .int .i64 0]) ∧ Upd (fun k => k = b ∨ k = g ∨ k = x) w w' ∧
      ∀ w1, NewW w' (.cells #[.int .u64 (v : Nat)] 35) w1 → ∃ s' w2, Runs Try.prog (Builtin.append_ #[38, 38] 38 #[.slice s.a s.n s.c, .slice (some ⟨w'.heap.size, 0, none⟩) 1 1]) w1 (.slice s'.a s'.n s'.c) w2 ∧ s'.n = s.n + 1 ∧
        Fo w2 x b g r B n W hn fl zero false (i + 1) co cp s' (held ++ [i]) ∧ Upd (fun k => ∃ p, s.a = some p ∧ k = p.block) w' w2 ∧ (s'.n ≤ s'.c) := by
  obtain ⟨f, order, p, A, h1, h2, h3, h4, h5, h6, h7⟩ := h.ex
  have hlt := h.lt
  have hlen : lenT (fO n hn) = n := fO_len n hn
  have hszo : szQ (fun _ => fO n hn) order = order.length * (n + 2) := by rw [szQ_const, hlen]
  have hmul : order.length * (n + 2) ≤ i * (n + 2) := Nat.mul_le_mul_right _ h4
  have hexp : (i + 1) * (n + 2) = i * (n + 2) + (n + 2) := by rw [Nat.add_mul, Nat.one_mul]
  obtain ⟨A', eM, L', ue'⟩ := h2.make h3 (j := i) (fun hm => by have := h5 i hm; omega) (by rw [hszo, hlen]; omega) (fun a _ k hk => by cases hk) (cs := List.replicate n 0) (by rw [hlen, List.length_replicate]) (fun a ha => by
    rw [hlen] at ha
    rw [List.getElem?_replicate, if_pos ha]; rfl) (fun y hy => by rw [List.eq_of_mem_replicate hy]; decide)
  have hHd : hdrT (fO n hn) = ⟨2, 2, (n : Nat), 0⟩ := rfl
  rw [hHd] at eM
  refine (makeH_spec h1 ⟨2, 2, (n : Nat), 0⟩ hz hoff (by rw [List.length_replicate]; omega) (fun y hy => by rw [List.eq_of_mem_replicate hy]; decide)).mono ?_
  rintro e w' ⟨rfl, H', u'⟩
  have eM' : makeT (Hp.mk A fl zero fresh i co cp).A ⟨2, 2, (n : Nat), 0⟩ (List.replicate n 0) = (A', f + szQ (fun _ => fO n hn) order + 1, 0) := eM
  have eH : mkT ⟨A, fl, zero, fresh, i, co, cp⟩ ⟨2, 2, (n : Nat), 0⟩ (List.replicate n 0) = ⟨A', fl, zero, false, ((i + 1 : Nat) : Int), co, cp⟩ := by
    unfold mkT
    rw [eM', if_pos rfl]
    have : IntKind.i64.wrap ((i : Int) + 1) = ((i + 1 : Nat) : Int) := by rw [wrap_i64 (by omega) (by omega)]; omega
    show Hp.mk A' fl zero false (IntKind.i64.wrap ((i : Int) + 1)) co cp = _
    rw [this]
  rw [eH] at H'
  rw [eM']
  refine ⟨_, rfl, u', fun w1 n1 => ?_⟩
  have z' := u'.size; have z1 := n1.size
  have hbase := h7.base
  have t1 := (h7.upd u' (fun q hq e => by have := hbase q hq; omega)).ext n1.ext
  have hBw : B ≤ w1.heap.size := by omega
  · obtain ⟨s', w2, hr, hrn, t2, u2, c2⟩ := t1.append1 (P := Try.prog) tab_ok (t := 38) (ty := 38) (by rfl) (by rfl) (ad := ⟨w'.heap.size, 0, none⟩) (v := .int .u64 ((f + szQ (fun _ => fO n hn) order + 1 : Nat) : Int)) ((Blk.new n1).cell 0) trivial (by omega) (by omega) hBw
    have H2 := (H'.ext n1.ext).upd u2 (by rintro ⟨q, hq, e⟩; have := hbase q hq; omega) (by rintro ⟨q, hq, e⟩; have := hbase q hq; omega) (by rintro ⟨q, hq, e⟩; have := hbase q hq; omega) (by rintro ⟨q, hq, e⟩; have := hbase q hq; omega)
    have hni : i ∉ held := fun hm => by have := h5 i (h6 i hm); omega
    refine ⟨s', w2, hr, hrn, ⟨⟨f, order ++ [i], pMk p i (f + szQ (fun _ => fO n hn) order), A', H2, L', ue', by rw [List.length_append, List.length_singleton]; omega, fun j hj => ?_, fun j hj => ?_, ?_⟩, ?_⟩, n1.ext.toS.trans u2 fun _ _ hn => ⟨hn, hn⟩, t2.cap.1⟩
    · rcases List.mem_append.1 hj with hj | hj
      · have := h5 j hj; omega
      · rw [List.mem_singleton.1 hj]; omega
    · rcases List.mem_append.1 hj with hj | hj
      · exact List.mem_append_left _ (h6 j hj)
      · exact List.mem_append_right _ hj
    · have e1 : (held ++ [i]).map (fun j => pMk p i (f + szQ (fun _ => fO n hn) order) j + 1) = held.map (fun j => p j + 1) ++ [f + szQ (fun _ => fO n hn) order + 1] := by
        rw [List.map_append]
        congr 1
        · refine List.map_congr_left fun j hj => ?_
          rw [pMk_ne (m := j) (fun e => hni (by rw [← e]; exact hj))]
        · rw [List.map_cons, List.map_nil, pMk_at]
      rw [e1, uv_append]
      exact t2
    · rw [List.nodup_append]
      refine ⟨h.nd, by simp, fun a ha c hc => ?_⟩
      rw [List.mem_singleton.1 hc]; rintro rfl; exact hni ha
/-- what is held is collected -/
theorem Fo.collect {w : World} {x b g r B n W : Nat} {hn : n ≤ 1000} {fl : List Int} {zero fresh : Bool} {i : Nat} {co cp : Int} {s : Sl} {held : List Nat} (h : Fo w x b g r B n W hn fl zero fresh i co cp s held) (hi : i ≤ 1000000) (hB : x < B ∧ b < B ∧ g < B ∧ r < B ∧ B ≤ w.heap.size) :
    Calls Try.prog 12 #[.pointer (some ⟨x, 0, none⟩), .slice s.a s.n s.c] w fun e w' => ∃ (nb : Nat) (ls : List Nat) (A' : Ar), e = .returned (.tuple #[.slice (some ⟨nb, 0, none⟩) held.length held.length, .int .i64 0]) ∧ Upd (fun k => k = b ∨ k = g ∨ k = x) w w' ∧ Blk w' nb 35 (uv ls) ∧ ls.length = held.length ∧ w.heap.size ≤ nb ∧
      HpW w' x b g r ⟨A', fl, zero, true, i, IntKind.i64.wrap (co + 1), IntKind.i64.wrap (cp + ((held.length * (n + 2) : Nat) : Int))⟩ ∧ A'.use.e - A'.use.f = held.length * (n + 2) ∧
      ∀ w2 s', Ext w' w2 → Tl w2 B 35 s' (uv ls) → Fo w2 x b g r B n W hn fl zero true i (IntKind.i64.wrap (co + 1)) (IntKind.i64.wrap (cp + ((held.length * (n + 2) : Nat) : Int))) s' held := by
  have hlt := h.lt
  have hnd := h.nd
  obtain ⟨f, order, p, A, h1, h2, h3, h4, h5, h6, h7⟩ := h.ex
  have hlen : lenT (fO n hn) = n := fO_len n hn
  have hro : ∀ o ∈ held.map some, ∀ j, o = some j → j ∈ order := by
    intro o ho j hj
    obtain ⟨k, hk, rfl⟩ := List.mem_map.1 ho
    injection hj with hj; subst hj; exact h6 k hk
  have hrd := h7.rd
  rw [← map_rv] at hrd
  refine (collectH_spec h1 h2.opn hrd (fun q hq => by have := h7.base q hq; omega) (h2.rv_lt hro) (by rw [List.length_map, List.length_map]; omega)).mono ?_
  rintro e w' (⟨hno, _⟩ | ⟨_, nb, rfl, H', nb', hnb, u'⟩)
  · rw [h2.okR hro] at hno; cases hno
  obtain ⟨Q, hw, hq, eC, L', ue', _, _⟩ := collect_laid h2 (held.map some) hro zero
  have eQ : Q = held := by
    rw [hw.plain (fun _ _ => rfl)]
    have := fold_nodup held [] (by simpa using hnd)
    simpa using this
  subst eQ
  have eu : (collectT A ((Q.map some).map (rv p)) zero).1.use.e - (collectT A ((Q.map some).map (rv p)) zero).1.use.f = Q.length * (n + 2) := by
    rw [ue', L'.uf, szQ_const, hlen]; omega
  have eH : colT ⟨A, fl, zero, fresh, i, co, cp⟩ ((Q.map some).map (rv p)) = ⟨(collectT A ((Q.map some).map (rv p)) zero).1, fl, zero, true, i, IntKind.i64.wrap (co + 1), IntKind.i64.wrap (cp + ((Q.length * (n + 2) : Nat) : Int))⟩ := by
    unfold colT
    dsimp only
    rw [eu]
  rw [eH] at H'
  have e2 : (collectT (Hp.mk A fl zero fresh i co cp).A ((Q.map some).map (rv p)) (Hp.mk A fl zero fresh i co cp).zero).2 = (Q.map some |>.map (rv (pNew (fun _ => fO n hn) (W - f) Q)), 0) := eC
  rw [e2] at nb' ⊢
  have el : ((Q.map some).map (rv p)).length = Q.length := by rw [List.length_map, List.length_map]
  rw [el]
  dsimp only at nb'
  rw [map_rv] at nb'
  refine ⟨nb, _, _, rfl, u', nb', by rw [List.length_map], hnb, H', eu, fun w2 s' x2 t2 => ⟨⟨_, Q, _, _, H'.ext x2, L', ue', by omega, fun j hj => h5 j (h6 j hj), fun j hj => hj, t2⟩, hnd⟩⟩
end Go.Proofs.Ytggpomialmpgoaa.V
