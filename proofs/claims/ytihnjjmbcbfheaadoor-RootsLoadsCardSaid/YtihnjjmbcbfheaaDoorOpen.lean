/-
  What arguments are, as data: shapes of types, their readings, kept in worlds that only grow; a law's row out of its walk.
-/
import Derived.Test.YtihnjjmbcbfheaaDoorArith
import Derived.Carry
import Derived.ChangeArms
import Derived.WideShapes
import Derived.SizedLaws
import Derived.ProofKit
import Derived.OpenShut
import Derived.Below
import Derived.ChangeSame
import Derived.WalkKit
namespace Go.Proofs.YtihnjjmbcbfheaaDoor.V
open Go Go.ChangeShapes Go.WideShapes Go.RowKit
set_option linter.unusedSimpArgs false
set_option linter.unusedVariables false

mutual
inductive Dt where
  | int (k : IntKind) | bool | str | sl (b : Nat) (r : Rw)
inductive Rw where
  | nil | cons (d : Dt) (r : Rw)
end
mutual
def Dt.T : Dt → Type
  | .int _ => Int
  | .bool => Bool
  | .str => ByteArray
  | .sl _ r => Sl × List (Rw.T r)
def Rw.T : Rw → Type
  | .nil => Unit
  | .cons d r => Dt.T d × Rw.T r
end
def Rw.n : Rw → Nat
  | .nil => 0
  | .cons _ r => r.n + 1
def Rw.app : Rw → Rw → Rw
  | .nil, s => s
  | .cons d r, s => .cons d (r.app s)
theorem Rw.n_app : ∀ (r s : Rw), (r.app s).n = r.n + s.n
  | .nil, s => by simp [Rw.app, Rw.n]
  | .cons d r, s => by simp only [Rw.app, Rw.n, Rw.n_app r s]; omega
/-- cells stand from an address on -/
def At (w : World) (p : Addr) (vs : List Value) : Prop := ∀ (j : Nat) (v : Value), vs[j]? = some v → w.cell? (p.add j) = some v
mutual
def Dt.Is : (d : Dt) → World → Value → d.T → Prop
  | .int k => fun _ v (n : Int) => v = .int k n ∧ (Lit.int k n).wf = true
  | .bool => fun _ v (b : Bool) => v = .bool b
  | .str => fun _ v (s : ByteArray) => v = .string s ∧ s.size ≤ reachBytes
  | .sl b r => fun w v (x : Sl × List (Rw.T r)) => v = .slice x.1.a x.1.n x.1.c ∧ x.2.length = x.1.n ∧ x.1.n ≤ x.1.c ∧ x.1.c ≤ maxLen ∧ x.1.n * b ≤ reachBytes ∧ (x.1.a = none → x.1.c = 0) ∧
      ∀ (i : Nat) (y : Rw.T r), x.2[i]? = some y → ∃ p vs, x.1.a = some p ∧ At w (p.add (i * r.n)) vs ∧ vs.length = r.n ∧ Rw.Is r w vs y
def Rw.Is : (r : Rw) → World → List Value → r.T → Prop
  | .nil => fun _ vs _ => vs = []
  | .cons d r => fun w vs (x : Dt.T d × Rw.T r) => ∃ v vs', vs = v :: vs' ∧ Dt.Is d w v x.1 ∧ Rw.Is r w vs' x.2
end
theorem Rw.Is.len : ∀ {r : Rw} {w : World} {vs : List Value} {y : r.T}, r.Is w vs y → vs.length = r.n
  | .nil, w, vs, y, h => by simp only [Rw.Is] at h; subst h; rfl
  | .cons d r, w, vs, y, h => by
    simp only [Rw.Is] at h
    obtain ⟨v, vs', rfl, _, h⟩ := h
    simp only [List.length_cons, Rw.n, Rw.Is.len h]
theorem Rw.Is.app : ∀ {r s : Rw} {w : World} {vs us : List Value} {y : r.T} {z : s.T}, r.Is w vs y → s.Is w us z → ∃ x, (r.app s).Is w (vs ++ us) x
  | .nil, s, w, vs, us, y, z, h, h' => by simp only [Rw.Is] at h; subst h; exact ⟨z, h'⟩
  | .cons d r, s, w, vs, us, y, z, h, h' => by
    simp only [Rw.Is] at h
    obtain ⟨v, vs', rfl, hd, h⟩ := h
    obtain ⟨x, hx⟩ := Rw.Is.app h h'
    exact ⟨(y.1, x), by simp only [Rw.app, Rw.Is]; exact ⟨v, vs' ++ us, rfl, hd, hx⟩⟩
theorem At.upd {S : Nat → Prop} {w w' : World} {p : Addr} {vs : List Value} (h : At w p vs) (k : Upd S w w') (hs : ¬ S p.block) : At w' p vs :=
  fun j v hj => k.cell (h j v hj) (by rw [block_add]; exact hs)
mutual
theorem Dt.Is.ext : ∀ {d : Dt} {w w' : World} {v : Value} {x : d.T}, d.Is w v x → Ext w w' → d.Is w' v x
  | .int k, _, _, _, _, h, _ => by simp only [Dt.Is] at h ⊢; exact h
  | .bool, _, _, _, _, h, _ => by simp only [Dt.Is] at h ⊢; exact h
  | .str, _, _, _, _, h, _ => by simp only [Dt.Is] at h ⊢; exact h
  | .sl b r, _, _, _, _, h, k => by
    simp only [Dt.Is] at h ⊢
    refine ⟨h.1, h.2.1, h.2.2.1, h.2.2.2.1, h.2.2.2.2.1, h.2.2.2.2.2.1, fun i y hy => ?_⟩
    obtain ⟨p, vs, hp, ha, hl, hi⟩ := h.2.2.2.2.2.2 i y hy
    exact ⟨p, vs, hp, ha.upd k not_false, hl, Rw.Is.ext hi k⟩
theorem Rw.Is.ext : ∀ {r : Rw} {w w' : World} {vs : List Value} {x : r.T}, r.Is w vs x → Ext w w' → r.Is w' vs x
  | .nil, _, _, _, _, h, _ => by simp only [Rw.Is] at h ⊢; exact h
  | .cons d r, _, _, _, _, h, k => by
    simp only [Rw.Is] at h ⊢
    obtain ⟨v, vs', h1, h2, h3⟩ := h
    exact ⟨v, vs', h1, Dt.Is.ext h2 k, Rw.Is.ext h3 k⟩
end

/-! ### slices of numbers -/
theorem wf_u8 {n : Int} (h : (Lit.int .u8 n).wf = true) : 0 ≤ n ∧ n ≤ 255 := by simpa [Lit.wf, IntKind.min, IntKind.max, IntKind.signed, IntKind.bits] using h
theorem wf_u64 {n : Int} (h : (Lit.int .u64 n).wf = true) : 0 ≤ n ∧ n ≤ 18446744073709551615 := by simpa [Lit.wf, IntKind.min, IntKind.max, IntKind.signed, IntKind.bits] using h
theorem wf_i64 {n : Int} (h : (Lit.int .i64 n).wf = true) : -9223372036854775808 ≤ n ∧ n ≤ 9223372036854775807 := by simpa [Lit.wf, IntKind.min, IntKind.max, IntKind.signed, IntKind.bits] using h
theorem reach_eq : reachBytes = 140737488351232 := by decide
section
variable {w : World} {v : Value} {b : Nat} {k : IntKind}
theorem is_nums {x : (Dt.sl b (.cons (.int k) .nil)).T} (h : (Dt.sl b (.cons (.int k) .nil)).Is w v x) :
    v = .slice x.1.a x.1.n x.1.c ∧ x.1.n ≤ x.1.c ∧ x.1.n * b ≤ 140737488351232 ∧ (x.1.a = none → x.1.c = 0) ∧ Rd w 1 x.1 (x.2.map fun y => .int k y.1) ∧ ∀ y ∈ x.2, (Lit.int k y.1).wf = true := by
  simp only [Dt.Is] at h
  obtain ⟨h1, h2, h3, h4, h5, h6, h7⟩ := h
  rw [reach_eq] at h5
  refine ⟨h1, h3, h5, h6, ⟨by simpa using h2, fun hn => ?_⟩, fun y hy => ?_⟩
  · cases ha : x.1.a with
    | none => have := h6 ha; omega
    | some p =>
      refine ⟨p, rfl, fun j u hj => ?_⟩
      rw [List.getElem?_map, Option.map_eq_some_iff] at hj
      obtain ⟨y, hy, rfl⟩ := hj
      obtain ⟨p', vs, hp, hat, hl, hi⟩ := h7 j y hy
      rw [ha] at hp; injection hp with hp; subst hp
      simp only [Rw.Is, Dt.Is] at hi
      obtain ⟨_, _, rfl, ⟨rfl, _⟩, rfl⟩ := hi
      have := hat 0 _ rfl
      rw [add_add] at this
      simpa [Rw.n] using this
  · obtain ⟨i, hi, rfl⟩ := List.getElem_of_mem hy
    obtain ⟨p', vs, hp, hat, hl, hi⟩ := h7 i _ (List.getElem?_eq_getElem hi)
    simp only [Rw.Is, Dt.Is] at hi
    obtain ⟨_, _, _, ⟨_, hw⟩, _⟩ := hi
    exact hw
theorem is_bytes {x : (Dt.sl b (.cons (.int .u8) .nil)).T} (h : (Dt.sl b (.cons (.int .u8) .nil)).Is w v x) :
    v = .slice x.1.a x.1.n x.1.c ∧ x.1.n ≤ x.1.c ∧ x.1.n * b ≤ 140737488351232 ∧ (x.1.a = none → x.1.c = 0) ∧ ∃ xs : List Nat, Rd w 1 x.1 (bv xs) ∧ ∀ y ∈ xs, y < 256 := by
  obtain ⟨h1, h2, h3, h4, h5, h6⟩ := is_nums h
  refine ⟨h1, h2, h3, h4, x.2.map fun y => y.1.toNat, ?_, ?_⟩
  · have : bv (x.2.map fun y => y.1.toNat) = x.2.map fun y => .int .u8 y.1 := by
      unfold bv
      rw [List.map_map]
      refine List.map_congr_left fun y hy => ?_
      have := wf_u8 (h6 y hy)
      simp only [Function.comp, Int.toNat_of_nonneg this.1]
    rw [this]; exact h5
  · intro y hy
    obtain ⟨z, hz, rfl⟩ := List.mem_map.1 hy
    have := wf_u8 (h6 z hz)
    omega
theorem is_words {x : (Dt.sl b (.cons (.int .u64) .nil)).T} (h : (Dt.sl b (.cons (.int .u64) .nil)).Is w v x) :
    v = .slice x.1.a x.1.n x.1.c ∧ x.1.n ≤ x.1.c ∧ x.1.n * b ≤ 140737488351232 ∧ (x.1.a = none → x.1.c = 0) ∧ ∃ xs : List Nat, Rd w 1 x.1 (uv xs) ∧ ∀ y ∈ xs, y < 18446744073709551616 := by
  obtain ⟨h1, h2, h3, h4, h5, h6⟩ := is_nums h
  refine ⟨h1, h2, h3, h4, x.2.map fun y => y.1.toNat, ?_, ?_⟩
  · have : uv (x.2.map fun y => y.1.toNat) = x.2.map fun y => .int .u64 y.1 := by
      unfold uv
      rw [List.map_map]
      refine List.map_congr_left fun y hy => ?_
      have := wf_u64 (h6 y hy)
      simp only [Function.comp, Int.toNat_of_nonneg this.1]
    rw [this]; exact h5
  · intro y hy
    obtain ⟨z, hz, rfl⟩ := List.mem_map.1 hy
    have := wf_u64 (h6 z hz)
    omega
theorem is_ints {x : (Dt.sl b (.cons (.int .i64) .nil)).T} (h : (Dt.sl b (.cons (.int .i64) .nil)).Is w v x) :
    v = .slice x.1.a x.1.n x.1.c ∧ x.1.n ≤ x.1.c ∧ x.1.n * b ≤ 140737488351232 ∧ (x.1.a = none → x.1.c = 0) ∧ ∃ xs : List Int, Rd w 1 x.1 (iv xs) ∧ ∀ y ∈ xs, -9223372036854775808 ≤ y ∧ y ≤ 9223372036854775807 := by
  obtain ⟨h1, h2, h3, h4, h5, h6⟩ := is_nums h
  refine ⟨h1, h2, h3, h4, x.2.map fun y => y.1, ?_, ?_⟩
  · have : iv (x.2.map fun y => y.1) = x.2.map fun y => .int .i64 y.1 := by
      unfold iv
      exact List.map_map
    rw [this]; exact h5
  · intro y hy
    obtain ⟨z, hz, rfl⟩ := List.mem_map.1 hy
    exact wf_i64 (h6 z hz)
end

/-! ### a type's cells, flat -/
mutual
def flat (P : Program) : Nat → Nat → Option Rw
  | 0, _ => none
  | m + 1, t =>
    match P.underlying t with
    | some .bool => some (.cons .bool .nil)
    | some (.int k) => some (.cons (.int k) .nil)
    | some .string => some (.cons .str .nil)
    | some (.slice e) => (flat P m e).bind fun r => if P.cellsOf e = r.n then some (.cons (.sl (P.bytesOf e) r) .nil) else none
    | some (.struct fs) => (flatF P m fs.toList 0).bind fun r => if P.cellsOf t = r.n then some r else none
    | _ => none
def flatF (P : Program) : Nat → List Field → Nat → Option Rw
  | _, [], _ => some .nil
  | 0, _ :: _, _ => none
  | m + 1, f :: fs, off => if f.offset = off then (flat P m f.type).bind fun r => if P.cellsOf f.type = r.n then (flatF P m fs (off + r.n)).map fun s => r.app s else none else none
end
section
variable {H : Type} {enc : TypeId × Value → H} {P : Program} {w : World} {base : Nat} {spare : Nat → Bool} {held : Bool}
theorem weightsAll_mem {e : TypeId} : ∀ {ds : List (DataW H)} {d : DataW H} {j : Nat}, ds[j]? = some d → ∀ n ∈ d.weights P e, n ∈ DataW.weightsAll P e ds
  | [], _, _, h, _, _ => by simp at h
  | d0 :: ds, d, 0, h, n, hn => by
    simp at h; subst h
    simp only [DataW.weightsAll, List.mem_append]; exact .inl hn
  | d0 :: ds, d, j + 1, h, n, hn => by
    simp only [DataW.weightsAll, List.mem_append]
    exact .inr (weightsAll_mem (by simpa using h) n hn)
theorem exists_list {α β : Type} {R : α → β → Prop} : ∀ (l : List α), (∀ a ∈ l, ∃ b, R a b) → ∃ m : List β, m.length = l.length ∧ ∀ (i : Nat) a b, l[i]? = some a → m[i]? = some b → R a b
  | [], _ => ⟨[], rfl, by simp⟩
  | a :: l, h => by
    obtain ⟨b, hb⟩ := h a (by simp)
    obtain ⟨m, hm, hr⟩ := exists_list l fun x hx => h x (by simp [hx])
    refine ⟨b :: m, by simp [hm], fun i x y hx hy => ?_⟩
    cases i with
    | zero => simp at hx hy; subst hx; subst hy; exact hb
    | succ i => exact hr i x y (by simpa using hx) (by simpa using hy)
mutual
theorem open_flat : ∀ (m n : Nat) (t : TypeId) (r : Rw) (cs : List Value) (x : DataW H × List MemPlace), flat P m t = some r → DataW.trod enc P w base spare held n t cs = some x →
    (∀ k ∈ x.1.weights P t, k ≤ reachBytes) → ∃ y, r.Is w cs y
  | 0, _, _, _, _, _, hf, _, _ => by simp [flat] at hf
  | m + 1, n, t, r, cs, x, hf, h, hw => by
    unfold flat at hf
    split at hf
    · rename_i ht
      injection hf with hf; subst hf
      obtain ⟨b, rfl, _⟩ := DataW.trod_bool ht h
      exact ⟨(b, ()), by simp only [Rw.Is, Dt.Is]; exact ⟨_, _, rfl, rfl, rfl⟩⟩
    · rename_i k ht
      injection hf with hf; subst hf
      obtain ⟨z, rfl, _, hz⟩ := DataW.trod_int ht h
      exact ⟨(z, ()), by simp only [Rw.Is, Dt.Is]; exact ⟨_, _, rfl, ⟨rfl, hz⟩, rfl⟩⟩
    · rename_i ht
      injection hf with hf; subst hf
      obtain ⟨s, rfl, rfl, hs⟩ := DataW.trod_string ht h
      have hb : s.size ≤ reachBytes := hw _ (by simp only [DataW.weights, List.mem_singleton, Array.length_toList]; rfl)
      exact ⟨(s, ()), by simp only [Rw.Is, Dt.Is]; exact ⟨_, _, rfl, ⟨rfl, hb⟩, rfl⟩⟩
    · rename_i e ht
      rw [Option.bind_eq_some_iff] at hf
      obtain ⟨r', hr', hf⟩ := hf
      split at hf
      · rename_i hc
        injection hf with hf; subst hf
        rcases DataW.trod_slice ht h with ⟨rfl, rfl⟩ | ⟨a, len, cap, elems, rest, n', rfl, rfl, rfl, hb, hl, hm, hlen, he, hr1, hr2⟩
        · refine ⟨((⟨none, 0, 0⟩, []), ()), ?_⟩
          simp only [Rw.Is, Dt.Is]
          exact ⟨_, _, rfl, ⟨rfl, rfl, Nat.le_refl _, Nat.zero_le _, by simp, by simp, by simp⟩, rfl⟩
        · simp only [DataW.weights, ht] at hw
          have key : ∀ z ∈ List.range len, ∃ y : r'.T, ∃ vs, At w (a.add (z * r'.n)) vs ∧ vs.length = r'.n ∧ r'.Is w vs y := fun i hi => by
            have hi : i < len := by simpa using hi
            have h1 := he i hi
            have hi' : i < elems.length := by omega
            rw [List.getElem?_eq_getElem hi', Option.bind_eq_some_iff] at h1
            obtain ⟨vs, hvs, htr⟩ := h1
            obtain ⟨_, hvl, hvc⟩ := World.cells?_some hvs
            obtain ⟨y, hy⟩ := open_flat m n' e r' vs _ hr' htr (fun k hk => hw k (List.mem_cons_of_mem _ (List.mem_append_left _ (weightsAll_mem (j := i) (d := elems[i].1) (by simp [List.getElem?_eq_getElem hi']) k hk))))
            rw [hc] at hvl hvc
            refine ⟨y, vs, fun j v hj => ?_, hvl, hy⟩
            have hjl : j < r'.n := by rw [← hvl]; exact (List.getElem?_eq_some_iff.1 hj).1
            rw [hvc j hjl, hj]
          obtain ⟨ys, hyl, hys⟩ := exists_list (List.range len) key
          simp only [List.length_range] at hyl
          refine ⟨((⟨some a, len, cap⟩, ys), ()), ?_⟩
          simp only [Rw.Is, Dt.Is]
          refine ⟨_, _, rfl, ⟨rfl, hyl, hl, hm, ?_, fun h => (by cases h), fun i y hy => ?_⟩, rfl⟩
          · have := hw _ (List.mem_cons_self ..)
            simp only [List.length_map] at this
            refine Nat.le_trans (Nat.mul_le_mul_right _ ?_) this
            omega
          · have hil : i < len := by rw [← hyl]; exact (List.getElem?_eq_some_iff.1 hy).1
            obtain ⟨vs, h1, h2, h3⟩ := hys i i y (by simp [hil]) hy
            exact ⟨a, vs, rfl, h1, h2, h3⟩
      · cases hf
    · rename_i fs ht
      obtain ⟨xs, n', rfl, rfl, hlen, hxl, hg⟩ := DataW.trod_struct ht h
      simp only [DataW.weights, ht] at hw
      rw [Option.bind_eq_some_iff] at hf
      obtain ⟨r', hf, hc⟩ := hf
      split at hc
      rotate_left
      · cases hc
      rename_i hn
      injection hc with hc; subst hc
      obtain ⟨y, hy⟩ := open_flatF m n' fs.toList 0 r' cs xs hf (by simpa using hxl) (fun i f hi => by simpa using hg i f (by simpa using hi)) hw
      rw [List.drop_zero] at hy
      rw [← hn, ← hlen, List.take_length] at hy
      exact ⟨y, hy⟩
    · cases hf
theorem open_flatF : ∀ (m n : Nat) (fs : List Field) (off : Nat) (r : Rw) (cs : List Value) (xs : List (DataW H × List MemPlace)), flatF P m fs off = some r → xs.length = fs.length →
    (∀ (i : Nat) (f : Field), fs[i]? = some f → DataW.trod enc P w base spare held n f.type ((cs.drop f.offset).take (P.cellsOf f.type)) = xs[i]?) →
    (∀ k ∈ DataW.weightsEach P (fs.map (·.type)) (xs.map (·.1)), k ≤ reachBytes) → ∃ y, r.Is w ((cs.drop off).take r.n) y
  | m, n, [], off, r, cs, xs, hf, hl, hg, hw => by
    cases m <;> (simp [flatF] at hf; subst hf; exact ⟨(), by simp [Rw.Is, Rw.n]⟩)
  | 0, n, f :: fs, off, r, cs, xs, hf, hl, hg, hw => by simp [flatF] at hf
  | m + 1, n, f :: fs, off, r, cs, xs, hf, hl, hg, hw => by
    unfold flatF at hf
    split at hf
    · rename_i ho
      subst ho
      rw [Option.bind_eq_some_iff] at hf
      obtain ⟨r1, hr1, hf⟩ := hf
      split at hf
      · rename_i hc
        rw [Option.map_eq_some_iff] at hf
        obtain ⟨r2, hr2, rfl⟩ := hf
        match xs, hl with
        | x :: xs, hl =>
          have h0 := hg 0 f rfl
          simp only [List.getElem?_cons_zero] at h0
          obtain ⟨y1, hy1⟩ := open_flat m n f.type r1 _ x hr1 h0 (fun k hk => hw k (by simp [DataW.weightsEach, hk]))
          obtain ⟨y2, hy2⟩ := open_flatF m n fs (f.offset + r1.n) r2 cs xs hr2 (by simpa using hl) (fun i f' hi => by simpa using hg (i + 1) f' (by simpa using hi)) (fun k hk => hw k (by simp [DataW.weightsEach, hk]))
          rw [hc] at hy1
          obtain ⟨y, hy⟩ := Rw.Is.app hy1 hy2
          refine ⟨y, ?_⟩
          rw [Rw.n_app, List.take_add, List.drop_drop]
          exact hy
      · cases hf
    · cases hf
end
end
end Go.Proofs.YtihnjjmbcbfheaaDoor.V
