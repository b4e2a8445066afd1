/-
  Words for memory: what may have changed, blocks known whole, slices that read as a list, rows of the call's own.
-/
import Derived.Test.YtihnjjmbcbfheaaDoorDenR
import Derived.Laws.CopyOwn
import Derived.Laws.AppendOwnNone
import Derived.Maps.AppendAt
namespace Go.Proofs.YtihnjjmbcbfheaaDoor.V
open Go Go.RowKit
set_option linter.unusedVariables false
set_option linter.unusedSimpArgs false

/-! ### addresses -/
theorem add_mk (g o i : Nat) : (⟨g, o, none⟩ : Addr).add i = ⟨g, o + i, none⟩ := by
  unfold Addr.add
  split
  · rename_i h; subst h; rfl
  · rfl
theorem block_add (p : Addr) (i : Nat) : (p.add i).block = p.block := by unfold Addr.add; split <;> rfl
theorem add_add (p : Addr) (i j : Nat) : (p.add i).add j = p.add (i + j) := by
  unfold Addr.add
  by_cases hi : i = 0 <;> by_cases hj : j = 0 <;> simp [hi, hj, Nat.add_assoc]

/-! ### blocks known whole -/
def Blk (w : World) (g T : Nat) (cs : List Value) : Prop := w.heap[g]? = some (.cells cs.toArray T (0, 0))
section
variable {w w' : World} {g T : Nat} {cs : List Value} {S : Nat → Prop}
theorem Blk.lt (h : Blk w g T cs) : g < w.heap.size := by
  rcases Nat.lt_or_ge g w.heap.size with hlt | hge
  · exact hlt
  · unfold Blk at h; rw [Array.getElem?_eq_none hge] at h; cases h
theorem Blk.cell (h : Blk w g T cs) (i : Nat) : w.cell? ⟨g, i, none⟩ = cs[i]? := by
  unfold Blk at h
  simp [World.cell?, h]
theorem Blk.frozen (h : Blk w g T cs) (i : Nat) : w.frozen? ⟨g, i, none⟩ = false := by
  unfold Blk at h
  simp [World.frozen?, h]
theorem Blk.upd (h : Blk w g T cs) (k : Upd S w w') (hS : ¬ S g) : Blk w' g T cs := (k.block g h.lt hS).trans h
theorem Blk.ext (h : Blk w g T cs) (k : Ext w w') : Blk w' g T cs := h.upd k not_false
theorem Blk.new {o : Array Value} (h : NewW w (.cells o T) w') : Blk w' w.heap.size T o.toList := h.new
theorem Blk.canSet (h : Blk w g T cs) (i : Nat) (hi : i < cs.length) : CanSet w ⟨g, i, none⟩ 1 :=
  ⟨⟨_, by rw [add_mk]; simpa using (h.cell i).trans (List.getElem?_eq_getElem hi)⟩, by rw [add_mk]; exact h.frozen _, trivial⟩
theorem Blk.canSetN (h : Blk w g T cs) (i : Nat) : ∀ n, i + n ≤ cs.length → CanSet w ⟨g, i, none⟩ n
  | 0, _ => trivial
  | n + 1, hn => ⟨⟨_, by rw [add_mk]; exact (h.cell _).trans (List.getElem?_eq_getElem (by omega))⟩, by rw [add_mk]; exact h.frozen _, h.canSetN i n (by omega)⟩
theorem Blk.setCell (h : Blk w g T cs) (i : Nat) (v : Value) : Blk (w.setCell ⟨g, i, none⟩ v) g T (cs.set i v) := by
  unfold Blk at h ⊢
  simp [World.setCell, Array.getElem?_modify, h]
theorem upd_setCell (w : World) (p : Addr) (v : Value) : Upd (· = p.block) w (w.setCell p v) :=
  ⟨rfl, rfl, rfl, by simp [World.setCell], fun k _ hk => Below.heap_setCell w p v k hk⟩
def setsL (cs : List Value) : Nat → List Value → List Value
  | _, [] => cs
  | i, v :: r => setsL (cs.set i v) (i + 1) r
theorem Blk.setL (h : Blk w g T cs) (o : Nat) : ∀ (vs : List Value) (i : Nat) (w : World) (cs : List Value), Blk w g T cs → Blk (setL w ⟨g, o, none⟩ i vs) g T (setsL cs (o + i) vs) := by
  intro vs
  induction vs with
  | nil => intro i w cs h; exact h
  | cons v r ih =>
    intro i w cs h
    unfold V.setL setsL
    rw [add_mk]
    exact ih (i + 1) _ _ (h.setCell (o + i) v)
theorem upd_setL (p : Addr) : ∀ (vs : List Value) (i : Nat) (w : World), Upd (· = p.block) w (setL w p i vs) := by
  intro vs
  induction vs with
  | nil => intro i w; exact .refl _ w
  | cons v r ih =>
    intro i w
    unfold setL
    have h := upd_setCell w (p.add i) v
    rw [block_add] at h
    exact h.same (ih (i + 1) _)
theorem SetW.upd {p : Addr} {vs : List Value} (h : SetW w p vs w') : Upd (· = p.block) w w' := by
  subst h
  exact upd_setL p vs 0 w
theorem size_setL (p : Addr) : ∀ (vs : List Value) (i : Nat) (w : World), (setL w p i vs).heap.size = w.heap.size
  | [], _, _ => rfl
  | v :: r, i, w => by unfold setL; rw [size_setL p r (i + 1)]; simp [World.setCell]
theorem SetW.size {p : Addr} {vs : List Value} (h : SetW w p vs w') : w'.heap.size = w.heap.size := by
  subst h
  exact size_setL p vs 0 w
theorem SetW.blk {i : Nat} {vs : List Value} (h : SetW w ⟨g, i, none⟩ vs w') (hb : Blk w g T cs) : Blk w' g T (setsL cs i vs) := by
  subst h
  exact hb.setL i vs 0 w cs hb
theorem SetW.blk1 {i : Nat} {v : Value} (h : SetW w ⟨g, i, none⟩ [v] w') (hb : Blk w g T cs) : Blk w' g T (cs.set i v) := h.blk hb
theorem Blk.ne {g' T' : Nat} {cs' : List Value} (h : Blk w g T cs) (h' : Blk w g' T' cs') (hne : T ≠ T') : g ≠ g' := by
  rintro rfl
  unfold Blk at h h'
  rw [h] at h'
  injection h' with h'
  injection h' with _ ht
  exact hne ht
theorem Blk.inj {cs' : List Value} {T' : Nat} (h : Blk w g T cs) (h' : Blk w g T' cs') : cs = cs' ∧ T = T' := by
  unfold Blk at h h'
  rw [h] at h'
  injection h' with h'
  injection h' with h1 h2
  exact ⟨by injection h1, h2⟩
theorem Blk.cellsAt (h : Blk w g T cs) (o : Nat) : ∀ (vs : List Value) (i : Nat), (∀ j v, vs[j]? = some v → cs[o + i + j]? = some v) → cellsAt w ⟨g, o, none⟩ i vs
  | [], _, _ => trivial
  | v :: r, i, hv => ⟨by rw [add_mk, h.cell]; simpa using hv 0 v rfl, h.cellsAt o r (i + 1) fun j u hu => by
      have := hv (j + 1) u (by simpa using hu)
      rw [← this]; congr 1; omega⟩
end

theorem ex_sl (a : Option Addr) (n c : Nat) (Q : Sl → Prop) : (∃ s : Sl, Value.slice a n c = Value.slice s.a s.n s.c ∧ Q s) = Q ⟨a, n, c⟩ := by
  apply propext
  constructor
  · rintro ⟨s, h, hq⟩
    injection h with h1 h2 h3
    subst h1; subst h2; subst h3
    exact hq
  · intro h; exact ⟨⟨a, n, c⟩, rfl, h⟩
/-! ### slices that read as a list -/
def Rd (w : World) (z : Nat) (s : Sl) (xs : List Value) : Prop :=
  xs.length = s.n * z ∧ (0 < s.n → ∃ p, s.a = some p ∧ ∀ j v, xs[j]? = some v → w.cell? (p.add j) = some v)
/-- the slice's block is none of S's -/
def Sl.off (s : Sl) (S : Nat → Prop) : Prop := ∀ p, s.a = some p → ¬ S p.block
section
variable {w w' : World} {z : Nat} {s : Sl} {xs : List Value} {S : Nat → Prop}
theorem Rd.upd (h : Rd w z s xs) (k : Upd S w w') (hS : s.off S) : Rd w' z s xs :=
  ⟨h.1, fun hn => by
    obtain ⟨p, hp, hc⟩ := h.2 hn
    exact ⟨p, hp, fun j v hv => k.cell (hc j v hv) (by rw [block_add]; exact hS p hp)⟩⟩
theorem Rd.ext (h : Rd w z s xs) (k : Ext w w') : Rd w' z s xs := h.upd k fun _ _ => not_false
theorem Rd.len1 (h : Rd w 1 s xs) : xs.length = s.n := by rw [h.1, Nat.mul_one]
theorem Rd.at1 (h : Rd w 1 s xs) (i : Nat) (hi : i < s.n) : ∃ p v, s.a = some p ∧ xs[i]? = some v ∧ w.cell? (p.add i) = some v := by
  obtain ⟨p, hp, hc⟩ := h.2 (by omega)
  have hl : i < xs.length := by rw [h.len1]; exact hi
  exact ⟨p, xs[i], hp, List.getElem?_eq_getElem hl, hc i _ (List.getElem?_eq_getElem hl)⟩
theorem Rd.block (h : Rd w z s xs) (hz : 0 < z) (hn : 0 < s.n) : ∃ p, s.a = some p ∧ p.block < w.heap.size := by
  obtain ⟨p, hp, hc⟩ := h.2 hn
  have hl : 0 < xs.length := by rw [h.1]; exact Nat.mul_pos hn hz
  have := hc 0 _ (List.getElem?_eq_getElem hl)
  refine ⟨p, hp, ?_⟩
  rcases Nat.lt_or_ge p.block w.heap.size with h | h
  · exact h
  · unfold World.cell? at this
    rw [block_add, Array.getElem?_eq_none h] at this
    cases this
theorem Rd.nil (w : World) (z c : Nat) (a : Option Addr) : Rd w z ⟨a, 0, c⟩ [] := ⟨by simp, fun h => absurd h (by simp)⟩
theorem Blk.rd {g T o n c : Nat} {cs : List Value} (h : Blk w g T cs) (hn : o + n * z ≤ cs.length) : Rd w z ⟨some ⟨g, o, none⟩, n, c⟩ ((cs.drop o).take (n * z)) :=
  ⟨by simp; omega, fun _ => ⟨_, rfl, fun j v hv => by
    rw [add_mk, h.cell]
    rw [List.getElem?_take] at hv
    split at hv
    · rw [List.getElem?_drop] at hv; exact hv
    · cases hv⟩⟩
theorem Rd.cut (h : Rd w 1 s xs) {k : Nat} (hk : k ≤ s.n) (hc : s.n ≤ s.c) :
    Rd w 1 ⟨if s.c = k then s.a else s.a.map (·.add (k * 1)), s.n - k, s.c - k⟩ (xs.drop k) := by
  refine ⟨by rw [List.length_drop, h.len1]; exact (Nat.mul_one _).symm, fun hn => ?_⟩
  have hn' : 0 < s.n - k := hn
  obtain ⟨p, hp, hcell⟩ := h.2 (Nat.lt_of_lt_of_le hn' (Nat.sub_le _ _))
  have hne : s.c ≠ k := by
    intro he
    have : k < s.n := Nat.lt_of_sub_pos hn'
    exact Nat.lt_irrefl _ (Nat.lt_of_lt_of_le this (he ▸ hc))
  show ∃ p, (if s.c = k then s.a else s.a.map (·.add (k * 1))) = some p ∧ _
  rw [if_neg hne, hp]
  refine ⟨p.add (k * 1), rfl, fun j v hv => ?_⟩
  rw [add_add]
  rw [List.getElem?_drop] at hv
  rw [Nat.mul_one]
  exact hcell _ v hv
theorem Rd.take (h : Rd w 1 s xs) {k c : Nat} (hk : k ≤ s.n) : Rd w 1 ⟨s.a, k, c⟩ (xs.take k) := by
  refine ⟨by rw [List.length_take, h.len1]; simp; omega, fun hn => ?_⟩
  obtain ⟨p, hp, hcell⟩ := h.2 (Nat.lt_of_lt_of_le hn hk)
  refine ⟨p, hp, fun j v hv => hcell j v ?_⟩
  rw [List.getElem?_take] at hv
  split at hv
  · exact hv
  · cases hv
end

/-! ### rows of the call's own -/
def Own (w : World) (B e z : Nat) (s : Sl) (xs : List Value) : Prop := w.ownsRow B e z s.val s.n xs
section
variable {P : Program} {τ : Tab} {w w' : World} {B e z : Nat} {s : Sl} {xs : List Value} {S : Nat → Prop}
theorem Own.nil (w : World) (B e z : Nat) : Own w B e z ⟨none, 0, 0⟩ [] := World.ownsRow_nil w B e z
theorem Own.blk (h : Own w B e z s xs) (hn : s.a ≠ none) : ∃ g cs, s.a = some ⟨g, 0, none⟩ ∧ B ≤ g ∧ Blk w g e cs ∧ s.n ≤ s.c ∧ s.c ≤ maxLen ∧ cs.length = s.c * z ∧ cs.take (s.n * z) = xs := by
  rcases h.2 with ⟨h1, _⟩ | ⟨g, cap, cur, hv, hg, hh, h1, h2, h3, h4⟩
  · injection h1 with h1; exact (hn h1).elim
  · injection hv with ha _ hc
    subst hc
    exact ⟨g, cur.toList, ha, hg, hh, h1, h2, by simpa using h3, h4⟩
theorem Own.of_blk {g : Nat} {cs : List Value} (hb : Blk w g e cs) (hg : B ≤ g) (hs : s.a = some ⟨g, 0, none⟩) (hn : s.n ≤ s.c) (hc : s.c ≤ maxLen) (hl : cs.length = s.c * z) : Own w B e z s (cs.take (s.n * z)) := by
  refine ⟨?_, .inr ⟨g, s.c, cs.toArray, by rw [← hs], hg, hb, hn, hc, by simpa using hl, by simp⟩⟩
  rw [List.length_take, hl]
  exact Nat.min_eq_left (Nat.mul_le_mul_right z hn)
theorem Own.none_ (h : Own w B e z s xs) (hn : s.a = none) : s = ⟨none, 0, 0⟩ ∧ xs = [] := by
  rcases h.2 with ⟨h1, h2⟩ | ⟨g, cap, cur, hv, _⟩
  · injection h1 with a1 a2 a3
    have hx := h.1
    rw [a2] at hx
    obtain ⟨a, n, c⟩ := s
    simp only at a1 a2 a3
    subst a1; subst a2; subst a3
    exact ⟨rfl, List.eq_nil_of_length_eq_zero (by simpa using hx)⟩
  · injection hv with ha; rw [hn] at ha; cases ha
theorem Own.base (h : Own w B e z s xs) : ∀ p, s.a = some p → B ≤ p.block ∧ p.block < w.heap.size := by
  intro p hp
  obtain ⟨g, cs, ha, hg, hb, _⟩ := h.blk (by rw [hp]; simp)
  rw [hp] at ha
  injection ha with ha
  subst ha
  exact ⟨hg, hb.lt⟩
theorem Own.rd (h : Own w B e z s xs) : Rd w z s xs := by
  refine ⟨h.1, fun hn => ?_⟩
  have hne : s.a ≠ none := fun hx => by
    have := (h.none_ hx).1
    rw [this] at hn
    simp at hn
  obtain ⟨g, cs, ha, _, hb, _, _, _, ht⟩ := h.blk hne
  refine ⟨_, ha, fun j v hv => ?_⟩
  rw [add_mk, Nat.zero_add, hb.cell]
  rw [← ht, List.getElem?_take] at hv
  split at hv
  · exact hv
  · cases hv
theorem Own.upd (h : Own w B e z s xs) (k : Upd S w w') (hS : s.off S) : Own w' B e z s xs := by
  cases ha : s.a with
  | none =>
    obtain ⟨h1, h2⟩ := h.none_ ha
    subst h2; rw [h1]
    exact .nil ..
  | some p =>
    obtain ⟨g, cs, hg, h1, h2, h3, h4, h5, h6⟩ := h.blk (by rw [ha]; simp)
    rw [← h6]
    exact .of_blk (h2.upd k (hS _ hg)) h1 hg h3 h4 h5
theorem Own.ext (h : Own w B e z s xs) (k : Ext w w') : Own w' B e z s xs := h.upd k fun _ _ => not_false
theorem Own.mono {B' : Nat} (h : Own w B e z s xs) (hB : B' ≤ B) : Own w B' e z s xs := by
  rcases h.2 with h2 | ⟨g, cap, cur, hv, hg, r⟩
  · exact ⟨h.1, .inl h2⟩
  · exact ⟨h.1, .inr ⟨g, cap, cur, hv, Nat.le_trans hB hg, r⟩⟩
theorem Own.len (h : Own w B e z s xs) : xs.length = s.n * z := h.1
theorem Own.len1 (h : Own w B e 1 s xs) : xs.length = s.n := by rw [h.1, Nat.mul_one]
theorem Own.cap (h : Own w B e z s xs) : s.n ≤ s.c := by
  cases ha : s.a with
  | none => rw [(h.none_ ha).1]; exact Nat.le_refl _
  | some p => obtain ⟨_, _, _, _, _, h3, _⟩ := h.blk (by rw [ha]; simp); exact h3
/-- a new row: 'make' -/
theorem zrow_one (v : Value) (n : Nat) : (zrow [v] n).toList = List.replicate n v := by
  apply List.ext_getElem
  · simp [zrow]
  intro i h1 h2
  simp [zrow, Nat.mod_one]
theorem zrow_len (l : List Value) (n : Nat) : (zrow l n).toList.length = n * l.length := by simp [zrow]
theorem Own.made {v : Value} {n c : Nat} (h : NewW w (.cells (zrow [v] c) e) w') (hB : B ≤ w.heap.size) (hn : n ≤ c) (hc : c ≤ 9223372036854775807) : Own w' B e 1 ⟨some ⟨w.heap.size, 0, none⟩, n, c⟩ (List.replicate n v) := by
  have := Own.of_blk (s := ⟨some ⟨w.heap.size, 0, none⟩, n, c⟩) (z := 1) (Blk.new h) hB rfl hn (by unfold maxLen; simp; omega) (by rw [zrow_one]; simp)
  rw [zrow_one] at this
  simpa [List.take_replicate, Nat.min_eq_left hn] using this
/-- a literal -/
theorem Own.lit {cs : List Value} {n : Nat} (h : NewW w (.cells cs.toArray e) w') (hB : B ≤ w.heap.size) (hl : cs.length = n * z) (hn : n ≤ 9223372036854775807) : Own w' B e z ⟨some ⟨w.heap.size, 0, none⟩, n, n⟩ cs := by
  have := Own.of_blk (s := ⟨some ⟨w.heap.size, 0, none⟩, n, n⟩) (z := z) (Blk.new h) hB rfl (Nat.le_refl _) (by unfold maxLen; simp; omega) hl
  simpa [← hl] using this

theorem one_all {l : List Value} (h : ∀ v ∈ l, one v) : ∀ v ∈ l, v.oneCell' = true := fun v hv => one_one (h v hv)

/-- append onto a row of the call's own: nothing but that row, and what is new, turns -/
theorem Own.append (hτ : τ.Ok P) {t ty by_ : Nat} {zs : List Value} (ht : lk τ.und t = some (.slice e)) (hs : lk τ.siz e = some (z, by_, zs)) (hz : 0 < z)
    (h : Own w B e z s xs) {x : Sl} {news : List Value} (hx : Rd w z x news) (h1 : ∀ v ∈ news, one v) (hb : (s.n + x.n) * by_ ≤ 140737488355328) (hm : s.n + x.n ≤ 9223372036854775807) (hB : B ≤ w.heap.size) :
    ∃ r w', Runs P (Builtin.append_ #[t, t] ty #[.slice s.a s.n s.c, .slice x.a x.n x.c]) w (.slice r.a r.n r.c) w' ∧ r.n = s.n + x.n ∧ Own w' B e z r (xs ++ news) ∧ Upd (fun k => ∃ p, s.a = some p ∧ k = p.block) w w' ∧
      (∀ p, r.a = some p → s.a = some p ∨ w.heap.size ≤ p.block) := by
  obtain ⟨i, hi, hi1, hi2, hi3, zv, hz1, hz2⟩ := hτ.siz _ _ _ _ hs
  have hu := hτ.slice ht
  have hmax : s.n + x.n ≤ maxLen := by unfold maxLen; simp; omega
  have key : ∀ v' w', (Builtin.append_ #[t, t] ty #[.slice s.a s.n s.c, .slice x.a x.n x.c]).run P w = .ok v' w' → w'.ownsRow B e z v' (s.n + x.n) (xs ++ news) → w.grownBy w' s.val.ownBlock →
      ((∃ g, v'.ownBlock = some g ∧ (s.val.ownBlock = some g ∨ w.heap.size ≤ g)) ∨ v' = .slice none 0 0) →
      ∃ r w', Runs P (Builtin.append_ #[t, t] ty #[.slice s.a s.n s.c, .slice x.a x.n x.c]) w (.slice r.a r.n r.c) w' ∧ r.n = s.n + x.n ∧ Own w' B e z r (xs ++ news) ∧ Upd (fun k => ∃ p, s.a = some p ∧ k = p.block) w w' ∧
      (∀ p, r.a = some p → s.a = some p ∨ w.heap.size ≤ p.block) := by
    intro v' w' hr ho hg hbk
    have hform : ∃ r : Sl, v' = r.val ∧ r.n = s.n + x.n := by
      rcases ho.2 with ⟨rfl, h0⟩ | ⟨g, cap, cur, rfl, _⟩
      · exact ⟨⟨none, 0, 0⟩, rfl, h0.symm⟩
      · exact ⟨⟨_, _, cap⟩, rfl, rfl⟩
    obtain ⟨r, rfl, hrn⟩ := hform
    have hown : Own w' B e z r (xs ++ news) := by unfold Own; rw [hrn]; exact ho
    refine ⟨r, w', hr, hrn, hown, (Upd.of_grown hg).mono fun k hk hn he => ?_, fun p hp => ?_⟩
    · cases ha : s.a with
      | none => rw [show s.val.ownBlock = none by simp [Sl.val, ha, Value.ownBlock]] at he; cases he
      | some p =>
        rw [show s.val.ownBlock = some p.block by simp [Sl.val, ha, Value.ownBlock]] at he
        injection he with he
        exact hn ⟨p, ha, he.symm⟩
    · rcases hbk with ⟨g, hg1, hg2⟩ | hnil
      · rw [show r.val.ownBlock = some p.block by simp [Sl.val, hp, Value.ownBlock]] at hg1
        injection hg1 with hg1
        subst hg1
        rcases hg2 with hg2 | hg2
        · cases ha : s.a with
          | none => rw [show s.val.ownBlock = none by simp [Sl.val, ha, Value.ownBlock]] at hg2; cases hg2
          | some q =>
            rw [show s.val.ownBlock = some q.block by simp [Sl.val, ha, Value.ownBlock]] at hg2
            injection hg2 with hg2
            obtain ⟨g1, _, e1, _⟩ := hown.blk (by rw [hp]; simp)
            obtain ⟨g2, _, e2, _⟩ := h.blk (by rw [ha]; simp)
            rw [hp] at e1; rw [ha] at e2
            injection e1 with e1; injection e2 with e2
            subst e1; subst e2
            simp only at hg2
            subst hg2
            exact .inl rfl
        · exact .inr hg2
      · injection hnil with h1; rw [hp] at h1; cases h1
  cases hxa : x.a with
  | none =>
    have hx0 : x.n = 0 := by
      rcases Nat.eq_zero_or_pos x.n with h0 | h0
      · exact h0
      · obtain ⟨p, hp, _⟩ := hx.2 h0; rw [hxa] at hp; cases hp
    have hn0 : news = [] := List.eq_nil_of_length_eq_zero (by rw [hx.1, hx0, Nat.zero_mul])
    have hrun : (Builtin.append_ #[t, t] ty #[.slice s.a s.n s.c, .slice x.a x.n x.c]).run P w = .ok s.val w := by
      rw [hxa, hx0]
      cases hsa : s.a with
      | none =>
        have h0 := (h.none_ hsa).1
        simp [h0, Builtin.append_, run_underlying hu, sizeOf, typeInfo, hi, Builtin.lenOf, Builtin.firstCells]
      | some p =>
        have hc := h.cap
        simp [hsa, hc, Builtin.append_, run_underlying hu, sizeOf, typeInfo, hi, Builtin.lenOf, Builtin.firstCells, storeCells]
    rw [hxa] at key hrun
    refine key _ _ hrun (by rw [hn0, hx0]; simp only [Nat.add_zero, List.append_nil]; exact h) (World.grownBy.refl w _) ?_
    cases hsa : s.a with
    | none => right; rw [(h.none_ hsa).1]
    | some p => left; exact ⟨p.block, by simp [Sl.val, hsa, Value.ownBlock], .inl (by simp [Sl.val, hsa, Value.ownBlock])⟩
  | some ad =>
    have hnews : ∀ j u, news[j]? = some u → w.cell? (ad.add j) = some u := by
      intro j u hj
      have h0 : 0 < x.n := by
        rcases Nat.eq_zero_or_pos x.n with h0 | h0
        · have : news = [] := List.eq_nil_of_length_eq_zero (by rw [hx.1, h0, Nat.zero_mul])
          rw [this] at hj; cases hj
        · exact h0
      obtain ⟨p, hp, hc⟩ := hx.2 h0
      rw [hxa] at hp
      injection hp with hp
      subst hp
      exact hc j u hj
    obtain ⟨v', w', hr, h2, h3, _, h5⟩ := run_append_own_at (P := P) w B t ty e i zv z by_ hu hi hz1 hi1 hi2 (by rw [hz2]; simp [hi3]) hz s.val s.n xs h ad x.n x.c news hx.1 hnews (one_all h1) hmax hb hB
    rw [hxa] at key
    refine key v' w' hr h2 h3 ?_
    rcases h5 with h5 | h5
    · cases hsa : s.a with
      | none =>
        rw [show s.val.ownBlock = none by simp [Sl.val, hsa, Value.ownBlock]] at h5
        right
        rcases h2.2 with ⟨hh, _⟩ | ⟨g, cap, cur, hh, _⟩
        · exact hh
        · rw [hh] at h5; cases h5
      | some p =>
        have hp : s.val.ownBlock = some p.block := by simp [Sl.val, hsa, Value.ownBlock]
        left; exact ⟨p.block, h5.trans hp, .inl hp⟩
    · left; exact ⟨w.heap.size, h5, .inr (Nat.le_refl _)⟩
end

/-- copy into a block known whole -/
theorem run_copy {P : Program} {τ : Tab} (hτ : τ.Ok P) {t1 t2 ty e' by_ : Nat} {zs : List Value} (ht : lk τ.und t1 = some (.slice e')) (hs : lk τ.siz e' = some (1, by_, zs))
    {w : World} {g T o dn dc : Nat} {cs : List Value} (h : Blk w g T cs) (hd : o + dn ≤ cs.length) {x : Sl} {xs : List Value} (hx : Rd w 1 x xs) (h1 : ∀ v ∈ xs, one v) :
    ∃ w', Runs P (Builtin.copy_ #[t1, t2] ty #[.slice (some ⟨g, o, none⟩) dn dc, .slice x.a x.n x.c]) w (.int .i64 (min x.n dn : Nat)) w' ∧
      Blk w' g T (cs.take o ++ (xs.take (min x.n dn) ++ cs.drop (o + min x.n dn))) ∧ Upd (· = g) w w' ∧ w'.heap.size = w.heap.size := by
  obtain ⟨i, hi, hi1, hi2, hi3, zv, hz1, hz2⟩ := hτ.siz _ _ _ _ hs
  have hu := hτ.slice ht
  have hl : (xs.take (min x.n dn)).length = min x.n dn := by rw [List.length_take, hx.len1]; omega
  cases hxa : x.a with
  | none =>
    have hx0 : x.n = 0 := by
      rcases Nat.eq_zero_or_pos x.n with h0 | h0
      · exact h0
      · obtain ⟨p, hp, _⟩ := hx.2 h0; rw [hxa] at hp; cases hp
    refine ⟨w, ?_, ?_, .refl _ _, rfl⟩
    · unfold Runs
      rw [hx0]
      simp [Builtin.copy_, run_underlying hu, Builtin.lenOf, Builtin.firstCells, sizeOf, typeInfo, hi, storeCells, goInt]
    · rw [hx0]; simpa using h
  | some ad =>
    have hsrc : ∀ j v, (xs.take (min x.n dn))[j]? = some v → w.cell? (ad.add j) = some v := by
      intro j v hv
      rw [List.getElem?_take] at hv
      split at hv
      · rename_i hj
        obtain ⟨p, hp, hc⟩ := hx.2 (by omega)
        rw [hxa] at hp
        injection hp with hp
        subst hp
        exact hc j v hv
      · cases hv
    have hr := run_copy_row (P := P) w t1 t2 ty e' g o dn dc ad x.n x.c cs.toArray T (xs.take (min x.n dn)) hu (by simp [hi, hi1]) h hl hsrc (by rw [hl]; show o + min x.n dn ≤ cs.length; omega)
      (fun v hv => one_one (h1 v (List.mem_of_mem_take hv)))
    have hr' : Runs P (Builtin.copy_ #[t1, t2] ty #[.slice (some ⟨g, o, none⟩) dn dc, .slice (some ad) x.n x.c]) w (.int .i64 (min x.n dn : Nat))
        (w.setRow g (cs.take o ++ (xs.take (min x.n dn) ++ cs.drop (o + min x.n dn))).toArray) := by
      unfold Runs
      rw [hr, hl]
      simp [goInt]
    exact ⟨_, hr', setRow_heap w g cs.toArray _ T (0, 0) h, ⟨rfl, rfl, rfl, by simp [World.setRow], fun k _ hk => setRow_other w g k _ hk⟩, by simp [World.setRow]⟩
theorem Own.copy {P : Program} {τ : Tab} (hτ : τ.Ok P) {t1 t2 ty e by_ B : Nat} {zs : List Value} (ht : lk τ.und t1 = some (.slice e)) (hs : lk τ.siz e = some (1, by_, zs))
    {w : World} {d : Sl} {ds : List Value} (h : Own w B e 1 d ds) {x : Sl} {xs : List Value} (hx : Rd w 1 x xs) (h1 : ∀ v ∈ xs, one v) :
    ∃ w', Runs P (Builtin.copy_ #[t1, t2] ty #[.slice d.a d.n d.c, .slice x.a x.n x.c]) w (.int .i64 (min x.n d.n : Nat)) w' ∧
      Own w' B e 1 d (xs.take (min x.n d.n) ++ ds.drop (min x.n d.n)) ∧ Upd (fun k => ∃ p, d.a = some p ∧ k = p.block) w w' ∧ w'.heap.size = w.heap.size := by
  have hdl := h.len1
  cases hda : d.a with
  | none =>
    have h0 := h.none_ hda
    obtain ⟨i, hi, hi1, hi2, hi3, zv, hz1, hz2⟩ := hτ.siz _ _ _ _ hs
    have hu := hτ.slice ht
    refine ⟨w, ?_, ?_, .refl _ _, rfl⟩
    · unfold Runs
      rw [h0.1]
      cases hxa : x.a with
      | none => simp [Builtin.copy_, run_underlying hu, Builtin.lenOf, Builtin.firstCells, sizeOf, typeInfo, hi, goInt]
      | some p => simp [Builtin.copy_, run_underlying hu, Builtin.lenOf, Builtin.firstCells, sizeOf, typeInfo, hi, goInt, loadCells, loadCellsFrom]
    · rw [h0.1, h0.2]
      simpa using Own.nil w B e 1
  | some p =>
    obtain ⟨g, cs, ha, hB, hb, hn, hc, hl, hts⟩ := h.blk (by rw [hda]; simp)
    rw [hda] at ha
    injection ha with ha
    subst ha
    obtain ⟨w', hr, hb', hu, hsz⟩ := run_copy (o := 0) (t2 := t2) (ty := ty) (dn := d.n) (dc := d.c) hτ ht hs hb (by omega) hx h1
    refine ⟨w', hr, ?_, hu.mono fun k _ hk he => hk ⟨_, rfl, he⟩, hsz⟩
    have hxl := hx.len1
    have := Own.of_blk (s := d) (z := 1) hb' hB hda hn hc (by simp; omega)
    simp only [List.take_zero, List.nil_append, Nat.zero_add, Nat.mul_one] at this hts
    rw [List.take_append, List.take_take, List.length_take, hxl] at this
    have e1 : min d.n (min x.n d.n) = min x.n d.n := by omega
    have e2 : min (min x.n d.n) x.n = min x.n d.n := by omega
    rw [e1, e2] at this
    rw [← hts, List.drop_take]
    exact this
end Go.Proofs.YtihnjjmbcbfheaaDoor.V
