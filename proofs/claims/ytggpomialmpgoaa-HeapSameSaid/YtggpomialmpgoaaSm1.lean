/-
  Law HeapSame: nodes and the objects that they become; one heap of them.
-/
import Derived.Test.YtggpomialmpgoaaHs1
import Derived.Test.YtggpomialmpgoaaHf1
namespace Go.Proofs.Ytggpomialmpgoaa.V
open Go Go.RowKit
set_option linter.unusedVariables false
set_option linter.unusedSimpArgs false
set_option maxRecDepth 100000

structure Nd where
  n : Nat
  ns : List Int
  pl : Int
def kN (t : Nd) : Nat := min t.ns.length 4
def ndAt (l : List Nd) (i : Nat) : Nd := l.getD i ⟨0, [], 0⟩
theorem ndAt_eq {l : List Nd} {i : Nat} {t : Nd} (h : l[i]? = some t) : ndAt l i = t := by unfold ndAt; rw [List.getD_eq_getElem?_getD, h]; rfl
def pk5 (c : Int) : Nat := (pk c 5).toNat
theorem pk5_lt (c : Int) : pk5 c < 5 ∧ ((pk5 c : Nat) : Int) = pk c 5 := by have := pk_lt (c := c) (n := 5) (by decide); unfold pk5; omega
/-- which objects are held, ahead of the i-th -/
def slT (l : List Nd) : Nat → List (Option Nat)
  | 0 => List.replicate 5 none
  | i + 1 => (slT l i).set (pk5 (ndAt l i).pl) (some i)
theorem slT_len (l : List Nd) : ∀ i, (slT l i).length = 5
  | 0 => by simp [slT]
  | i + 1 => by unfold slT; rw [List.length_set]; exact slT_len l i
theorem slT_lt (l : List Nd) : ∀ i, ∀ o ∈ slT l i, ∀ j, o = some j → j < i
  | 0 => fun o ho j hj => by
    have := List.eq_of_mem_replicate ho
    rw [this] at hj; cases hj
  | i + 1 => fun o ho j hj => by
    unfold slT at ho
    rcases List.mem_or_eq_of_mem_set ho with h | h
    · have := slT_lt l i o h j hj; omega
    · rw [h] at hj; injection hj with hj; omega
def hdN (k : Nat) : Hd := ⟨1, 2, (k + 1 : Nat), (2 ^ k - 1) * 2⟩
theorem bitsN {k a : Nat} (ha : a < k + 1) : ((2 ^ k - 1) * 2) / 2 ^ a % 2 = if 1 ≤ a then 1 else 0 := by
  have e : ((2 ^ k - 1) * 2 ^ 1).testBit a = decide (1 ≤ a ∧ a - 1 < k) := by
    rw [← Nat.shiftLeft_eq, Nat.testBit_shiftLeft, Nat.testBit_two_pow_sub_one]
    by_cases h : 1 ≤ a <;> simp [h]
  rw [Nat.testBit_eq_decide_div_mod_eq, Nat.pow_one] at e
  by_cases h : 1 ≤ a
  · rw [if_pos h]
    have : decide (1 ≤ a ∧ a - 1 < k) = true := decide_eq_true ⟨h, by omega⟩
    rw [this] at e
    exact of_decide_eq_true e
  · rw [if_neg h]
    have : decide (1 ≤ a ∧ a - 1 < k) = false := decide_eq_false fun hh => h hh.1
    rw [this] at e
    have := of_decide_eq_false e
    omega
theorem hdN_may {k : Nat} (hk : k ≤ 4) : MayT (hdN k) := by
  refine ⟨by show (0 : Int) ≤ 2; decide, by show (2 : Int) ≤ 255; decide, by unfold hdN; dsimp only; omega, .inl ⟨rfl, by unfold hdN; dsimp only; omega, ?_⟩⟩
  unfold hdN
  dsimp only
  rw [Int.toNat_natCast, Nat.pow_succ]
  have : 0 < 2 ^ k := Nat.pow_pos (by decide)
  omega
theorem refT_hdN {k a : Nat} (ha : a < k + 1) : refT (hdN k) a = decide (1 ≤ a) := by
  unfold refT hdN
  dsimp only
  rw [bitsN ha]
  by_cases h : 1 ≤ a
  · rw [if_pos h, decide_eq_true h]; rfl
  · rw [if_neg h, decide_eq_false h]; rfl
def nmN (l : List Nd) (i a : Nat) : Option Nat := if 1 ≤ a then (slT l i).getD (pk5 ((ndAt l i).ns.getD (a - 1) 0)) none else none
theorem nmN_mem {l : List Nd} {i a k : Nat} (h : nmN l i a = some k) : some k ∈ slT l i := by
  unfold nmN at h
  split at h
  · rw [List.getD_eq_getElem?_getD] at h
    cases hx : (slT l i)[pk5 ((ndAt l i).ns.getD (a - 1) 0)]? with
    | none => rw [hx] at h; cases h
    | some o => rw [hx] at h; rw [← h]; exact List.mem_of_getElem? hx
  · cases h
/-- the i-th object -/
def tN (l : List Nd) (i : Nat) : Th where
  hd := hdN (kN (ndAt l i))
  nm := nmN l i
  vl := fun a => if a = 0 then (ndAt l i).n else 0
  may := hdN_may (by unfold kN; omega)
  rf := fun a ha k hk => by
    have ha' : a < kN (ndAt l i) + 1 := by
      have : (hdN (kN (ndAt l i))).l.toNat = kN (ndAt l i) + 1 := by unfold hdN; exact Int.toNat_natCast _
      omega
    rw [refT_hdN ha']
    unfold nmN at hk
    split at hk
    · rename_i h; exact decide_eq_true h
    · cases hk
  zr := fun a ha _ hr => by
    have ha' : a < kN (ndAt l i) + 1 := by
      have : (hdN (kN (ndAt l i))).l.toNat = kN (ndAt l i) + 1 := by unfold hdN; exact Int.toNat_natCast _
      omega
    rw [refT_hdN ha'] at hr
    have := of_decide_eq_true hr
    show (if a = 0 then (ndAt l i).n else 0) = 0
    rw [if_neg (by omega)]
theorem tN_len (l : List Nd) (i : Nat) : lenT (tN l i) = kN (ndAt l i) + 1 := by show (hdN (kN (ndAt l i))).l.toNat = _; unfold hdN; exact Int.toNat_natCast _
theorem tN_le (l : List Nd) (i : Nat) : lenT (tN l i) ≤ 5 := by rw [tN_len]; unfold kN; omega
theorem szQ_le7 (l : List Nd) : ∀ q : List Nat, szQ (tN l) q ≤ 7 * q.length
  | [] => Nat.le_refl _
  | a :: q => by
    have := szQ_le7 l q; have := tN_le l a
    have e : szQ (tN l) (a :: q) = lenT (tN l a) + 2 + szQ (tN l) q := rfl
    rw [e, List.length_cons]; omega
theorem nodup_len : ∀ (q r : List Nat), q.Nodup → (∀ k ∈ q, k ∈ r) → q.length ≤ r.length
  | [], r, _, _ => Nat.zero_le _
  | a :: q, r, hn, h => by
    rw [List.nodup_cons] at hn
    have hm := h a (List.mem_cons_self ..)
    have e := List.length_erase_of_mem hm
    have hp : 0 < r.length := List.length_pos_of_mem hm
    have ih := nodup_len q (r.erase a) hn.2 fun k hk => by
      have : k ≠ a := fun e => hn.1 (e ▸ hk)
      exact (List.mem_erase_of_ne this).2 (h k (List.mem_cons_of_mem _ hk))
    rw [List.length_cons]; omega
/-- a heap of such objects -/
structure Gs (w : World) (x b g r : Nat) (l : List Nd) (W : Nat) (fl : List Int) (zero fresh : Bool) (i : Nat) (order : List Nat) (p : Nat → Nat) : Prop where
  ex : ∃ f A co cp, p = pNew (tN l) f order ∧ HpW w x b g r ⟨A, fl, zero, fresh, i, co, cp⟩ ∧ Laid (tN l) 0 W f order p A ∧ A.use.e = f + szQ (tN l) order
  lt : ∀ j ∈ order, j < i
section
variable {w w' : World} {x b g r W : Nat} {l : List Nd} {fl : List Int} {zero fresh : Bool} {i : Nat} {order : List Nat} {p : Nat → Nat} {S : Nat → Prop}
theorem Gs.upd (h : Gs w x b g r l W fl zero fresh i order p) (u : Upd S w w') (hx : ¬ S x) (hb : ¬ S b) (hg : ¬ S g) (hr : ¬ S r) : Gs w' x b g r l W fl zero fresh i order p := by
  obtain ⟨f, A, co, cp, h1, h2, h3, h4⟩ := h.ex
  exact ⟨⟨f, A, co, cp, h1, h2.upd u hx hb hg hr, h3, h4⟩, h.lt⟩
theorem Gs.ext (h : Gs w x b g r l W fl zero fresh i order p) (u : Ext w w') : Gs w' x b g r l W fl zero fresh i order p := h.upd u not_false not_false not_false not_false
theorem Gs.blk (h : Gs w x b g r l W fl zero fresh i order p) : x < w.heap.size ∧ b < w.heap.size ∧ g < w.heap.size ∧ r < w.heap.size := by
  obtain ⟨f, A, co, cp, h1, h2, h3, h4⟩ := h.ex
  exact h2.lt
theorem Gs.small (h : Gs w x b g r l W fl zero fresh i order p) : szQ (tN l) order ≤ 7 * i := by
  obtain ⟨f, A, co, cp, h1, h2, h3, h4⟩ := h.ex
  have h5 := nodup_len order (List.range i) h3.nd (fun k hk => List.mem_range.2 (h.lt k hk))
  rw [List.length_range] at h5
  have := szQ_le7 l order
  omega
/-- references are one-to-one -/
theorem Gs.inj (h : Gs w x b g r l W fl zero fresh i order p) {o o' : Option Nat} (ho : ∀ j, o = some j → j ∈ order) (ho' : ∀ j, o' = some j → j ∈ order) : rv p o = rv p o' ↔ o = o' := by
  obtain ⟨f, A, co, cp, h1, h2, h3, h4⟩ := h.ex
  refine ⟨fun he => ?_, fun he => by rw [he]⟩
  cases o with
  | none =>
    cases o' with
    | none => rfl
    | some j => have : 0 = p j + 1 := he; omega
  | some j =>
    cases o' with
    | none => have : p j + 1 = 0 := he; omega
    | some k =>
      have : p j + 1 = p k + 1 := he
      by_cases hjk : j = k
      · rw [hjk]
      · have := h3.apart j (ho j rfl) k (ho' k rfl) hjk; omega
theorem Gs.rlt (h : Gs w x b g r l W fl zero fresh i order p) {o : Option Nat} (ho : ∀ j, o = some j → j ∈ order) : rv p o < 18446744073709551616 := by
  obtain ⟨f, A, co, cp, h1, h2, h3, h4⟩ := h.ex
  have := h3.rv_lt (roots := [o]) (fun o' ho' j hj => ho j (by rw [← List.mem_singleton.1 ho']; exact hj)) (rv p o) (by simp)
  exact this
theorem Gs.due (h : Gs w x b g r l W fl zero false i order p) : Calls Try.prog 11 #[.pointer (some ⟨x, 0, none⟩), hdV (hdN (kN (ndAt l i)))] w fun e w' => ∃ bb : Bool, e = .returned (.bool bb) ∧ Ext w w' := by
  obtain ⟨f, A, co, cp, h1, h2, h3, h4⟩ := h.ex
  exact (due_spec h2 _).mono fun e w' ⟨he, hx⟩ => ⟨_, he, hx⟩
theorem Gs.make (h : Gs w x b g r l W fl zero fresh i order p) (hroom : 7 * (i + 1) ≤ W) (hi : i ≤ 1000000) (hsl : ∀ o ∈ slT l i, ∀ j, o = some j → j ∈ order) {sz : Sl} {cs : List Nat} (hcl : cs.length = kN (ndAt l i) + 1)
    (hcs : ∀ a, a < kN (ndAt l i) + 1 → cs[a]? = some (cellV 0 (fun m => p m + 1) (tN l i) a)) (hn : (ndAt l i).n < 18446744073709551616) (hz : Rd w 1 sz (uv cs)) (hoff : sz.off fun k => k = b ∨ k = g) :
    Calls Try.prog 14 #[.pointer (some ⟨x, 0, none⟩), hdV (hdN (kN (ndAt l i))), .slice sz.a sz.n sz.c] w fun e w' => ∃ p', e = .returned (.tuple #[.int .u64 (p' i + 1 : Nat), .int .i64 0]) ∧ Gs w' x b g r l W fl zero false (i + 1) (order ++ [i]) p' ∧ (∀ j ∈ order, p' j = p j) ∧ Upd (fun k => k = b ∨ k = g ∨ k = x) w w' := by
  have hsm := h.small
  have hrl := fun {o : Option Nat} (ho : ∀ j, o = some j → j ∈ order) => h.rlt ho
  obtain ⟨f, A, co, cp, rfl, h2, h3, h4⟩ := h.ex
  have h5 := tN_le l i
  have hy : ∀ y ∈ cs, y < 18446744073709551616 := fun y hy => by
    obtain ⟨a, ha, rfl⟩ := List.getElem_of_mem hy
    have := hcs a (by omega)
    rw [List.getElem?_eq_getElem ha] at this
    injection this with this
    rw [this]
    cases hnm : namT 0 (tN l i) a with
    | none =>
      rw [cellV_no hnm]
      show (if a = 0 then (ndAt l i).n else 0) < _
      split <;> omega
    | some k =>
      rw [cellV_some hnm]
      have hm := nmN_mem (l := l) (i := i) (a := a) hnm
      exact hrl (o := some k) (fun j hj => by injection hj with hj; subst hj; exact hsl _ hm k rfl)
  obtain ⟨A', eM, L', ue', hpn⟩ := h3.make' h4 (j := i) (fun hm => by have := h.lt i hm; omega) (by omega) (fun a _ k hk => hsl _ (nmN_mem (l := l) (i := i) (a := a) hk) k rfl) (cs := cs) (by rw [tN_len]; exact hcl) (fun a ha => by rw [tN_len] at ha; exact hcs a ha) hy
  have hHd : hdrT (tN l i) = hdN (kN (ndAt l i)) := rfl
  rw [hHd] at eM
  refine (makeH_spec h2 (hdN (kN (ndAt l i))) hz hoff (by rw [hcl]; unfold kN; omega) hy).mono ?_
  rintro e w' ⟨rfl, H', u'⟩
  have eM' : makeT (Hp.mk A fl zero fresh i co cp).A (hdN (kN (ndAt l i))) cs = (A', pNew (tN l) f (order ++ [i]) i + 1, 0) := eM
  have eH : mkT ⟨A, fl, zero, fresh, i, co, cp⟩ (hdN (kN (ndAt l i))) cs = ⟨A', fl, zero, false, ((i + 1 : Nat) : Int), co, cp⟩ := by
    unfold mkT
    rw [eM', if_pos rfl]
    have : IntKind.i64.wrap ((i : Int) + 1) = ((i + 1 : Nat) : Int) := by rw [wrap_i64 (by omega) (by omega)]; omega
    show Hp.mk A' fl zero false (IntKind.i64.wrap ((i : Int) + 1)) co cp = _
    rw [this]
  rw [eH] at H'
  rw [eM']
  refine ⟨_, rfl, ⟨⟨f, A', co, cp, rfl, H', L', ue'⟩, fun j hj => ?_⟩, hpn, u'⟩
  rcases List.mem_append.1 hj with hj | hj
  · have := h.lt j hj; omega
  · rw [List.mem_singleton.1 hj]; omega
theorem Gs.collect (h : Gs w x b g r l W fl zero fresh i order p) {s : Sl} {roots : List (Option Nat)} (hrl : roots.length ≤ 1000) (hro : ∀ o ∈ roots, ∀ j, o = some j → j ∈ order) (hrd : Rd w 1 s (uv (roots.map (rv p)))) (hlo : ∀ q, s.a = some q → q.block ≠ b ∧ q.block ≠ g ∧ q.block < w.heap.size) :
    Calls Try.prog 12 #[.pointer (some ⟨x, 0, none⟩), .slice s.a s.n s.c] w fun e w' => ∃ nb order' p', e = .returned (.tuple #[.slice (some ⟨nb, 0, none⟩) roots.length roots.length, .int .i64 0]) ∧ Gs w' x b g r l W fl zero true i order' p' ∧ (∀ o ∈ roots, ∀ j, o = some j → j ∈ order') ∧ Blk w' nb 35 (uv (roots.map (rv p'))) ∧ w.heap.size ≤ nb ∧ Upd (fun k => k = b ∨ k = g ∨ k = x) w w' := by
  obtain ⟨f, A, co, cp, hp, h2, h3, h4⟩ := h.ex
  refine (collectH_spec h2 h3.opn hrd hlo (h3.rv_lt hro) (by rw [List.length_map]; omega)).mono ?_
  rintro e w' (⟨hno, _⟩ | ⟨_, nb, rfl, H', nb', hnb, u'⟩)
  · rw [h3.okR hro] at hno; cases hno
  obtain ⟨Q, hw, hq, eC, L', ue', _, _⟩ := collect_laid h3 roots hro zero
  have e2 : (collectT (Hp.mk A fl zero fresh i co cp).A (roots.map (rv p)) (Hp.mk A fl zero fresh i co cp).zero).2 = (roots.map (rv (pNew (tN l) (W - f) Q)), 0) := eC
  rw [e2] at nb' ⊢
  rw [List.length_map]
  refine ⟨nb, Q, _, rfl, ⟨⟨W - f, _, _, _, rfl, H', L', ue'⟩, fun j hj => h.lt j (hq j hj)⟩, fun o ho j hj => ?_, nb', hnb, u'⟩
  obtain ⟨rr, hpre⟩ := hw.pre
  rw [hpre]
  refine List.mem_append_left _ ?_
  have : ∀ (lr : List (Option Nat)) (q : List Nat), (j ∈ q ∨ some j ∈ lr) → j ∈ lr.foldl pushO q := by
    intro lr
    induction lr with
    | nil => intro q h; exact h.elim id (fun h => by cases h)
    | cons o lr ih =>
      intro q h
      rw [List.foldl_cons]
      refine ih _ ?_
      rcases h with h | h
      · left
        obtain ⟨r', hr'⟩ := pushO_pre q o
        rw [hr']; exact List.mem_append_left _ h
      · rcases List.mem_cons.1 h with h | h
        · left; rw [← h]; exact pushQ_mem
        · right; exact h
  exact this roots [] (.inr (by rw [← hj]; exact ho))
end
end Go.Proofs.Ytggpomialmpgoaa.V
