/-
  A view in memory: its text, its numbers; what is appended to it.
-/
import Derived.Test.YtepmokkhcombmaaDoorSv1
import Derived.Test.YtepmokkhcombmaaDoorVcC
import Derived.Test.YtepmokkhcombmaaDoorOwn2
namespace Go.Proofs.YtepmokkhcombmaaDoor.V
open Go Go.RowKit
set_option linter.unusedVariables false
set_option linter.unusedSimpArgs false
set_option linter.unusedSectionVars false
set_option maxRecDepth 100000

def nF (m : List Nat) : Int → Option Value := fun x => if 0 ≤ x ∧ x.toNat ∈ m then some (.int .i64 ((m.idxOf x.toNat + 1 : Nat) : Int)) else none
theorem nF_nil : (fun _ => none) = nF [] := by funext x; unfold nF; rw [if_neg (by simp)]
theorem nF_snoc {m : List Nat} {x : Nat} (hx : x ∉ m) : (fun y => if y = (x : Int) then some (Value.int .i64 ((m.length + 1 : Nat) : Int)) else nF m y) = nF (m ++ [x]) := by
  funext y
  unfold nF
  by_cases h : y = (x : Int)
  · subst h
    rw [if_pos rfl, if_pos ⟨by omega, by rw [Int.toNat_natCast]; simp⟩, Int.toNat_natCast, List.idxOf_append, if_neg hx]
    simp
  · rw [if_neg h]
    by_cases h2 : 0 ≤ y ∧ y.toNat ∈ m
    · rw [if_pos h2, if_pos ⟨h2.1, List.mem_append_left _ h2.2⟩, List.idxOf_append, if_pos h2.2]
    · rw [if_neg h2, if_neg]
      rintro ⟨h3, h4⟩
      rw [List.mem_append, List.mem_singleton] at h4
      rcases h4 with h4 | h4
      · exact h2 ⟨h3, h4⟩
      · exact h (by omega)
theorem nF_none {m : List Nat} {x : Nat} (hx : x ∉ m) : nF m (x : Nat) = none := by
  unfold nF; rw [if_neg]; rintro ⟨_, h⟩; rw [Int.toNat_natCast] at h; exact hx h
theorem nF_some {m : List Nat} {x : Nat} (hx : x ∈ m) : nF m (x : Nat) = some (.int .i64 ((m.idxOf x + 1 : Nat) : Int)) := by
  unfold nF; rw [if_pos ⟨by omega, by rw [Int.toNat_natCast]; exact hx⟩, Int.toNat_natCast]
abbrev vwV (ts : Sl) (r : Nat) (ms : Sl) : List Value := [.slice ts.a ts.n ts.c, .map (some r), .slice ms.a ms.n ms.c]
/-- blocks of other types stand -/
def Kt (w w' : World) : Prop := ∀ (k T : Nat) (cs : List Value), Blk w k T cs → T ≠ 5 → T ≠ 28 → T ≠ 65 → T ≠ 25 → Blk w' k T cs
structure FR (B : Nat) (w w' : World) : Prop where
  u : Upd (fun k => B ≤ k) w w'
  k : Kt w w'
section
variable {w w' w'' : World} {B : Nat}
theorem FR.refl (B : Nat) (w : World) : FR B w w := ⟨Upd.refl _ _, fun _ _ _ h _ _ _ _ => h⟩
theorem FR.trans (h : FR B w w') (k : FR B w' w'') : FR B w w'' := ⟨h.u.same k.u, fun i T cs hb h1 h2 h3 h4 => k.k i T cs (h.k i T cs hb h1 h2 h3 h4) h1 h2 h3 h4⟩
theorem FR.ext (h : Ext w w') : FR B w w' := ⟨h.mono fun _ _ _ => not_false, fun _ _ _ hb _ _ _ _ => hb.ext h⟩
end
theorem own_noByt {w : World} {B e z : Nat} {s : Sl} {xs : List Value} (h : Own w B e z s xs) (he : e ≠ 5) : ∀ p, s.a = some p → ¬ BytB w p.block := by
  intro p hp
  obtain ⟨g, cs, ha, _, hb, _⟩ := h.blk (by rw [hp]; simp)
  rw [hp] at ha; injection ha with ha; subst ha
  exact hb.noByt he
theorem own_byt {w : World} {B z : Nat} {s : Sl} {xs : List Value} (h : Own w B 5 z s xs) : ∀ p, s.a = some p → B ≤ p.block ∧ BytB w p.block := by
  intro p hp
  obtain ⟨g, cs, ha, hB, hb, _⟩ := h.blk (by rw [hp]; simp)
  rw [hp] at ha; injection ha with ha; subst ha
  exact ⟨hB, .of hb⟩
structure SP (w : World) (B g r : Nat) (o : Option Nat) (ts ms qs : Sl) (txt : List UInt8) (m A : List Nat) : Prop where
  hg : Blk w g 65 (vwV ts r ms)
  ht : Own w B 5 1 ts (tv txt)
  hm : Own w B 28 1 ms (uv m)
  hap : Apart qs ms
  hq : ∀ a, o = some a → Blk w a 25 [.slice qs.a qs.n qs.c] ∧ Own w B 28 1 qs (uv A)
  hr : MapI w r .u64 (nF m)
  hlo : B ≤ g ∧ B ≤ r
  hgd : Gd m
def ST (w : World) (B g r : Nat) (o : Option Nat) (txt : List UInt8) (m A : List Nat) : Prop := ∃ ts ms qs, SP w B g r o ts ms qs txt m A
section
variable {w w' w1 w2 : World} {B g r : Nat} {o : Option Nat} {ts ms qs ts' : Sl} {txt txt' : List UInt8} {m A : List Nat} {S : Nat → Prop}
theorem SP.ext (h : SP w B g r o ts ms qs txt m A) (u : Ext w w') : SP w' B g r o ts ms qs txt m A :=
  ⟨h.hg.ext u, h.ht.ext u, h.hm.ext u, h.hap, fun a ha => ⟨(h.hq a ha).1.ext u, (h.hq a ha).2.ext u⟩, h.hr.ext u, h.hlo, h.hgd⟩
theorem ST.ext (h : ST w B g r o txt m A) (u : Ext w w') : ST w' B g r o txt m A := by
  obtain ⟨ts, ms, qs, h⟩ := h; exact ⟨ts, ms, qs, h.ext u⟩
theorem SP.size (h : SP w B g r o ts ms qs txt m A) : B ≤ w.heap.size := by have := h.hg.lt; have := h.hlo.1; omega
theorem SP.tn (h : SP w B g r o ts ms qs txt m A) : ts.n = txt.length := by have := h.ht.len1; rw [tv_length] at this; exact this.symm
theorem SP.mn (h : SP w B g r o ts ms qs txt m A) : ms.n = m.length := by have := h.hm.len1; unfold uv at this; rw [List.length_map] at this; exact this.symm
theorem SP.can (h : SP w B g r o ts ms qs txt m A) (j : Nat) (hj : j < 3) : CanSet w ⟨g, j, none⟩ 1 := h.hg.canSet j (by simpa using hj)
/-- the text is another one -/
theorem SP.bytes (h : SP w B g r o ts ms qs txt m A) (u : Upd S w w1) (hS : ∀ k, S k → B ≤ k ∧ BytB w k) (o1 : Own w1 B 5 1 ts' (tv txt')) :
    Blk w1 g 65 (vwV ts r ms) ∧ ∀ w2, SetW w1 ⟨g, 0, none⟩ [.slice ts'.a ts'.n ts'.c] w2 → SP w2 B g r o ts' ms qs txt' m A ∧ FR B w w2 := by
  have no : ∀ {k T : Nat} {cs : List Value}, Blk w k T cs → T ≠ 5 → Blk w1 k T cs := fun hb hT => hb.upd u fun hs => hb.noByt hT (hS _ hs).2
  have noO : ∀ {e z : Nat} {s : Sl} {xs : List Value}, Own w B e z s xs → e ≠ 5 → Own w1 B e z s xs := fun ho he => ho.upd u fun p hp hs => own_noByt ho he p hp (hS _ hs).2
  have g1 := no h.hg (by decide)
  refine ⟨g1, fun w2 s2 => ?_⟩
  have u2 : Upd (fun k => k = g) w1 w2 := s2.upd
  have g2 := s2.blk1 g1
  have m1 := noO h.hm (by decide)
  refine ⟨⟨g2, o1.upd u2 (own_blk_ne o1 g1 (by decide)), m1.upd u2 (own_blk_ne m1 g1 (by decide)), h.hap, fun a ha => ?_, ?_, h.hlo, h.hgd⟩, ⟨?_, fun k T cs hb h1 h2 h3 h4 => ?_⟩⟩
  · obtain ⟨q1, q2⟩ := h.hq a ha
    have q1' := no q1 (by decide)
    have q2' := noO q2 (by decide)
    exact ⟨q1'.upd u2 (q1'.ne g1 (by decide)), q2'.upd u2 (own_blk_ne q2' g1 (by decide))⟩
  · have r1 : MapI w1 r .u64 (nF m) := h.hr.upd u fun hs => h.hr.noByt (hS _ hs).2
    exact r1.upd u2 (r1.ne g1)
  · exact u.trans u2 fun i _ hn => ⟨fun hs => hn (hS i hs).1, fun e => hn (by rw [e]; exact h.hlo.1)⟩
  · have hb1 := no hb h1
    exact hb1.upd u2 (hb1.ne g1 h3)
abbrev own1 (s : Sl) : Nat → Prop := fun k => ∃ p, s.a = some p ∧ k = p.block
theorem SP.ownS (h : SP w B g r o ts ms qs txt m A) : ∀ k, own1 ts k → B ≤ k ∧ BytB w k := by rintro k ⟨p, hp, rfl⟩; exact own_byt h.ht p hp
theorem SP.stays (h : SP w B g r o ts ms qs txt m A) {k T : Nat} {cs : List Value} (hb : Blk w k T cs) (hT : T ≠ 5) (u : Upd (own1 ts) w w') : Blk w' k T cs := hb.upd u fun hs => hb.noByt hT (h.ownS _ hs).2
theorem SP.byte (h : SP w B g r o ts ms qs txt m A) (b : UInt8) {x : Int} (hx : ((b.toNat : Nat) : Int) = x) (hl : txt.length + 1 ≤ 70000000000000) (n1 : NewW w (.cells #[.int .u8 x] 5) w1) :
    ∃ (s' : Sl) (w2 : World), Runs Tryd.prog (Builtin.append_ #[59, 59] 59 #[.slice ts.a ts.n ts.c, .slice (some ⟨w.heap.size, 0, none⟩) 1 1]) w1 (.slice s'.a s'.n s'.c) w2 ∧ CanSet w2 ⟨g, 0, none⟩ 1 ∧
      ∀ w3, SetW w2 ⟨g, 0, none⟩ [.slice s'.a s'.n s'.c] w3 → ST w3 B g r o (txt ++ [b]) m A ∧ FR B w w3 := by
  have h1 := h.ext n1.ext
  have z0 := h.size
  have z1 := h1.size
  have hn := h.tn
  have rd : Rd w1 1 ⟨some ⟨w.heap.size, 0, none⟩, 1, 1⟩ (tv [b]) := by
    have : tv [b] = [.int .u8 x] := by rw [← hx]; rfl
    rw [this]
    exact (Blk.new n1).rd (z := 1) (o := 0) (n := 1) (c := 1) (by simp)
  obtain ⟨s', w2, hr, hrn, o2, u2, _⟩ := h1.ht.append (t := 59) (ty := 59) tab_ok (by rfl) (by rfl) (by decide) rd (tv_ones _) (by dsimp only; omega) (by dsimp only; omega) (by omega)
  rw [← tv_append] at o2
  obtain ⟨g2, k2⟩ := h1.bytes u2 h1.ownS o2
  refine ⟨s', w2, hr, g2.canSet 0 (by simp), fun w3 s3 => ?_⟩
  obtain ⟨p3, f3⟩ := k2 w3 s3
  exact ⟨⟨_, _, _, p3⟩, (FR.ext n1.ext).trans f3⟩
theorem SP.str (h : SP w B g r o ts ms qs txt m A) (t : List UInt8) (hl : txt.length + t.length ≤ 70000000000000) :
    ∃ (s' : Sl) (w2 : World), Runs Tryd.prog (Builtin.append_ #[59, 9] 59 #[.slice ts.a ts.n ts.c, .string (mkB t)]) w (.slice s'.a s'.n s'.c) w2 ∧ Upd (own1 ts) w w2 ∧ CanSet w2 ⟨g, 0, none⟩ 1 ∧
      ∀ w3, SetW w2 ⟨g, 0, none⟩ [.slice s'.a s'.n s'.c] w3 → ST w3 B g r o (txt ++ t) m A ∧ FR B w w3 := by
  have z0 := h.size
  have hn := h.tn
  obtain ⟨s', w2, hr, hrn, o2, u2⟩ := h.ht.appS t (by omega) (by omega)
  obtain ⟨g2, k2⟩ := h.bytes u2 h.ownS o2
  refine ⟨s', w2, hr, u2, g2.canSet 0 (by simp), fun w3 s3 => ?_⟩
  obtain ⟨p3, f3⟩ := k2 w3 s3
  exact ⟨⟨_, _, _, p3⟩, f3⟩
theorem SP.num (h : SP w B g r o ts ms qs txt m A) {i : Int} (h0 : -9223372036854775808 ≤ i) (h1 : i ≤ 9223372036854775807) (hl : txt.length + 21 ≤ 70000000000000) (hT : TB B w) :
    Calls Tryd.prog 19 #[.slice ts.a ts.n ts.c, .int .i64 i, .int .i64 10] w fun e w2 => ∃ s' : Sl, e = .returned (.slice s'.a s'.n s'.c) ∧ Upd (fun k => B ≤ k ∧ BytB w k) w w2 ∧ CanSet w2 ⟨g, 0, none⟩ 1 ∧
      ∀ w3, SetW w2 ⟨g, 0, none⟩ [.slice s'.a s'.n s'.c] w3 → ST w3 B g r o (txt ++ Lib.itoa i) m A ∧ FR B w w3 := by
  have hn := h.tn
  refine (appi_spec h.ht h.size h0 h1 (by omega) hT).mono ?_
  rintro e w2 ⟨s', rfl, o2, u2⟩
  obtain ⟨g2, k2⟩ := h.bytes u2 (fun k hk => hk) o2
  refine ⟨s', rfl, u2, g2.canSet 0 (by simp), fun w3 s3 => ?_⟩
  obtain ⟨p3, f3⟩ := k2 w3 s3
  exact ⟨⟨_, _, _, p3⟩, f3⟩
theorem SP.numStays (hb0 : Nat) {k T : Nat} {cs : List Value} (hb : Blk w k T cs) (hT : T ≠ 5) (u : Upd (fun k => B ≤ k ∧ BytB w k) w w') : Blk w' k T cs := hb.upd u fun hs => hb.noByt hT hs.2
end
theorem mk_und : Tryd.prog.underlying 63 = some (.map 28 3) := by kernel_rfl
theorem mk_key : Tryd.prog.underlying 28 = some (.int .u64) := by kernel_rfl
theorem mk_zero (w : World) : (zeroValue 3).run Tryd.prog w = .ok (.int .i64 0) w := by
  have hi : (Tryd.prog.info? 3).bind (·.zero) = some (.int .i64 0) := by kernel_rfl
  obtain ⟨i, hi, hz⟩ := Option.bind_eq_some_iff.1 hi
  simp only [zeroValue, typeInfo, Sem.run_bind, run_program, hi, Result.andThen_ok, Sem.run_pure, hz]
theorem mkB_list (t : List UInt8) : (mkB t).toList = t := by unfold mkB; simp
end Go.Proofs.YtepmokkhcombmaaDoor.V
