/-
  Rows that are exchanged place by place: what lies in [a, b) is shuffled, the rest stays; what insertion, heaps and partitions lead to. No program in sight.
-/
import Derived.Test.YtkebldjepdhioaaBase
set_option linter.unusedVariables false
set_option linter.unusedSimpArgs false
namespace Wm
/-- The list of the first n values. -/
def mkS (n : Nat) (f : Nat → Nat) : List Nat := (List.range n).map f
theorem mkS_length (n : Nat) (f : Nat → Nat) : (mkS n f).length = n := by simp [mkS]
theorem mkS_get {n k : Nat} (f : Nat → Nat) (h : k < n) : (mkS n f).getD k 0 = f k := by
  unfold mkS
  rw [List.getD_eq_getElem?_getD, List.getElem?_map, List.getElem?_range h]; rfl
theorem mkS_congr {n : Nat} {f g : Nat → Nat} (h : ∀ k, k < n → f k = g k) : mkS n f = mkS n g := List.map_congr_left fun k hk => h k (List.mem_range.1 hk)
theorem mkS_self (l : List Nat) : mkS l.length (fun i => l.getD i 0) = l := by
  apply List.ext_getElem (by rw [mkS_length])
  intro k h1 h2
  simp [mkS, h2]
theorem mkS_mem {n x : Nat} {f : Nat → Nat} : x ∈ mkS n f ↔ ∃ k, k < n ∧ f k = x := by simp [mkS]
theorem perm_sub {l m : List Nat} (h1 : l.Nodup) (h2 : m.Nodup) (hs : ∀ x ∈ l, x ∈ m) (hl : m.length ≤ l.length) : l.Perm m := by
  have hs2 : ∀ x ∈ m, x ∈ l := fun x hx => by
    apply Classical.byContradiction
    intro hn
    have := List.Nodup.length_le_of_subset (l₁ := x :: l) (l₂ := m) (List.nodup_cons.2 ⟨hn, h1⟩) (fun y hy => by
      rcases List.mem_cons.1 hy with rfl | hy
      · exact hx
      · exact hs y hy)
    simp at this
    omega
  rw [List.perm_iff_count]
  intro a
  by_cases ha : a ∈ l
  · rw [h1.count, h2.count, if_pos ha, if_pos (hs a ha)]
  · rw [List.count_eq_zero_of_not_mem ha, List.count_eq_zero_of_not_mem (fun h => ha (hs2 a h))]
/-- Two places exchanged. -/
def swf (f : Nat → Nat) (i j : Nat) : Nat → Nat := fun k => if k = i then f j else if k = j then f i else f k
theorem swf_l (f : Nat → Nat) (i j : Nat) : swf f i j i = f j := if_pos rfl
theorem swf_r (f : Nat → Nat) (i j : Nat) : swf f i j j = f i := by
  unfold swf; split
  · rename_i h; rw [h]
  · exact if_pos rfl
theorem swf_o (f : Nat → Nat) {i j k : Nat} (h1 : k ≠ i) (h2 : k ≠ j) : swf f i j k = f k := by
  unfold swf; rw [if_neg h1, if_neg h2]
theorem swf_self (f : Nat → Nat) (i : Nat) : swf f i i = f := by
  funext k; unfold swf
  by_cases h : k = i <;> simp [h]
theorem swf_perm (f : Nat → Nat) {i j n : Nat} (hi : i < n) (hj : j < n) : (mkS n (swf f i j)).Perm (mkS n f) := by
  have e : mkS n (swf f i j) = ((List.range n).map (fun k => if k = i then j else if k = j then i else k)).map f := by
    unfold mkS
    rw [List.map_map]
    apply List.map_congr_left
    intro k _
    show swf f i j k = f (if k = i then j else if k = j then i else k)
    unfold swf
    split
    · rfl
    · split <;> rfl
  rw [e]
  refine List.Perm.map f (perm_sub ?_ List.nodup_range (fun x hx => ?_) (by simp))
  · have h1 : (List.range n).Nodup := List.nodup_range
    rw [List.nodup_iff_pairwise_ne] at *
    rw [List.pairwise_map]
    refine h1.imp fun {a b} hne he => hne ?_
    split at he <;> split at he <;> (try split at he) <;> (try split at he) <;> omega
  · obtain ⟨y, hy, rfl⟩ := List.mem_map.1 hx
    have := List.mem_range.1 hy
    apply List.mem_range.2
    split
    · exact hj
    · split
      · exact hi
      · exact this
/-- What lies in [a, b) is shuffled; the rest stays. -/
structure Shuf (a b : Nat) (f f' : Nat → Nat) : Prop where
  out : ∀ i, (i < a ∨ b ≤ i) → f' i = f i
  frm : ∀ i, a ≤ i → i < b → ∃ j, a ≤ j ∧ j < b ∧ f' i = f j
  perm : ∀ n, b ≤ n → (mkS n f').Perm (mkS n f)
section
variable {a b : Nat} {f f' f'' : Nat → Nat}
theorem Shuf.refl (a b : Nat) (f : Nat → Nat) : Shuf a b f f := ⟨fun _ _ => rfl, fun i h1 h2 => ⟨i, h1, h2, rfl⟩, fun _ _ => .refl _⟩
theorem Shuf.trans (h : Shuf a b f f') (k : Shuf a b f' f'') : Shuf a b f f'' :=
  ⟨fun i hi => (k.out i hi).trans (h.out i hi), fun i h1 h2 => by
    obtain ⟨j, j1, j2, e⟩ := k.frm i h1 h2
    obtain ⟨m, m1, m2, e2⟩ := h.frm j j1 j2
    exact ⟨m, m1, m2, e.trans e2⟩, fun n hn => (k.perm n hn).trans (h.perm n hn)⟩
theorem Shuf.wide {c d : Nat} (h : Shuf a b f f') (h1 : c ≤ a) (h2 : b ≤ d) : Shuf c d f f' :=
  ⟨fun i hi => h.out i (by omega), fun i i1 i2 => by
    by_cases e : a ≤ i ∧ i < b
    · obtain ⟨j, j1, j2, e⟩ := h.frm i e.1 e.2
      exact ⟨j, by omega, by omega, e⟩
    · exact ⟨i, i1, i2, h.out i (by omega)⟩, fun n hn => h.perm n (by omega)⟩
theorem Shuf.swap (f : Nat → Nat) {i j : Nat} (hi : a ≤ i ∧ i < b) (hj : a ≤ j ∧ j < b) : Shuf a b f (swf f i j) :=
  ⟨fun k hk => swf_o f (by omega) (by omega), fun k h1 h2 => by
    by_cases e : k = i
    · subst e; exact ⟨j, hj.1, hj.2, swf_l f k j⟩
    · by_cases e2 : k = j
      · subst e2; exact ⟨i, hi.1, hi.2, swf_r f i k⟩
      · exact ⟨k, h1, h2, swf_o f e e2⟩, fun n hn => swf_perm f (by omega) (by omega)⟩
theorem Shuf.step (h : Shuf a b f f') {i j : Nat} (hi : a ≤ i ∧ i < b) (hj : a ≤ j ∧ j < b) : Shuf a b f (swf f' i j) := h.trans (Shuf.swap f' hi hj)
/-- All in the range is at least x. -/
theorem Shuf.all {p : Nat → Prop} (h : Shuf a b f f') (hp : ∀ k, a ≤ k → k < b → p (f k)) : ∀ k, a ≤ k → k < b → p (f' k) := fun k h1 h2 => by
  obtain ⟨j, j1, j2, e⟩ := h.frm k h1 h2
  rw [e]; exact hp j j1 j2
end
def Srtd (a b : Nat) (f : Nat → Nat) : Prop := ∀ p q, a ≤ p → p < q → q < b → f p ≤ f q
/-- Nothing in [a, b) is less than what lies ahead of it. -/
def Blw (a b : Nat) (f : Nat → Nat) : Prop := 0 < a → ∀ k, a ≤ k → k < b → f (a - 1) ≤ f k
theorem Blw.shuf {a b : Nat} {f f' : Nat → Nat} (h : Blw a b f) (s : Shuf a b f f') : Blw a b f' := fun ha k h1 h2 => by
  rw [s.out (a - 1) (by omega)]
  exact s.all (p := fun x => f (a - 1) ≤ x) (h ha) k h1 h2

/-! ### Insertion -/
/-- Sorted below m, but that what lies at j may belong further down. -/
def InsA (a m j : Nat) (f : Nat → Nat) : Prop := ∀ p q, a ≤ p → p < q → q < m → q ≠ j → f p ≤ f q
theorem InsA.start {a j : Nat} {f : Nat → Nat} (h : Srtd a j f) : InsA a (j + 1) j f := fun p q h1 h2 h3 h4 => h p q h1 h2 (by omega)
theorem InsA.done {a m j : Nat} {f : Nat → Nat} (h : InsA a m j f) (hj : j ≤ a ∨ f (j - 1) ≤ f j) : Srtd a m f := fun p q h1 h2 h3 => by
  by_cases e : q = j
  · subst e
    rcases hj with hj | hj
    · omega
    · by_cases e2 : p = q - 1
      · rw [e2]; exact hj
      · exact Nat.le_trans (h p (q - 1) h1 (by omega) (by omega) (by omega)) hj
  · exact h p q h1 h2 h3 e
theorem InsA.step {a m j : Nat} {f : Nat → Nat} (h : InsA a m j f) (ha : a < j) (hm : j < m) (hl : f j < f (j - 1)) : InsA a m (j - 1) (swf f j (j - 1)) := fun p q h1 h2 h3 h4 => by
  by_cases e : q = j
  · subst e
    rw [swf_l]
    by_cases e2 : p = q - 1
    · rw [e2, swf_r]; omega
    · rw [swf_o f (by omega) e2]
      exact h p (q - 1) h1 (by omega) (by omega) (by omega)
  · rw [swf_o f e h4]
    by_cases e2 : p = j
    · subst e2; rw [swf_l]
      exact Nat.le_trans (h (p - 1) q (by omega) (by omega) h3 e) (Nat.le_refl _)
    · by_cases e3 : p = j - 1
      · rw [e3, swf_r]
        by_cases e4 : j < q
        · exact h j q (by omega) e4 h3 e
        · omega
      · rw [swf_o f e2 e3]; exact h p q h1 h2 h3 e
theorem InsA.of_swap {a i : Nat} {f : Nat → Nat} (h : Srtd a i f) : InsA a i (i - 1) (swf f i (i - 1)) := fun p q h1 h2 h3 h4 => by
  rw [swf_o f (by omega) (by omega), swf_o f (by omega) h4]
  exact h p q h1 h2 h3
theorem Srtd.above {a i x y : Nat} {f : Nat → Nat} (h : Srtd a i f) (hx : i ≤ x) (hy : i ≤ y) : Srtd a i (swf f x y) := fun p q h1 h2 h3 => by
  rw [swf_o f (by omega) (by omega), swf_o f (by omega) (by omega)]
  exact h p q h1 h2 h3
theorem Srtd.snoc {a m : Nat} {f : Nat → Nat} (h : Srtd a m f) (hl : m ≤ a ∨ f (m - 1) ≤ f m) : Srtd a (m + 1) f := (InsA.start h).done hl
theorem Srtd.congr {a b : Nat} {f f' : Nat → Nat} (h : Srtd a b f) (e : ∀ k, a ≤ k → k < b → f' k = f k) : Srtd a b f' := fun p q h1 h2 h3 => by
  rw [e p h1 (by omega), e q (by omega) h3]; exact h p q h1 h2 h3

/-! ### Heaps: node i lies at s + i, its children at s + 2i + 1 and s + 2i + 2 -/
def Chl (i c : Nat) : Prop := c = 2 * i + 1 ∨ c = 2 * i + 2
def Hp (lo hi s : Nat) (f : Nat → Nat) : Prop := ∀ i c, lo ≤ i → c < hi → Chl i c → f (s + c) ≤ f (s + i)
/-- But for node r, whose children are below its parent. -/
def HpX (lo hi s r : Nat) (f : Nat → Nat) : Prop := (∀ i c, lo ≤ i → i ≠ r → c < hi → Chl i c → f (s + c) ≤ f (s + i)) ∧ ∀ i c, lo ≤ i → Chl i r → c < hi → Chl r c → f (s + c) ≤ f (s + i)
theorem HpX.start {lo hi s : Nat} {f : Nat → Nat} (h : Hp (lo + 1) hi s f) : HpX lo hi s lo f :=
  ⟨fun i c h1 h2 h3 h4 => h i c (by omega) h3 h4, fun i c h1 h2 h3 h4 => by unfold Chl at h2; omega⟩
theorem HpX.done {lo hi s r : Nat} {f : Nat → Nat} (h : HpX lo hi s r f) (hr : ∀ c, c < hi → Chl r c → f (s + c) ≤ f (s + r)) : Hp lo hi s f := fun i c h1 h2 h3 => by
  by_cases e : i = r
  · subst e; exact hr c h2 h3
  · exact h.1 i c h1 e h2 h3
theorem HpX.step {lo hi s r k : Nat} {f : Nat → Nat} (h : HpX lo hi s r f) (hlo : lo ≤ r) (hk : Chl r k) (hk2 : k < hi) (hm : ∀ c, c < hi → Chl r c → f (s + c) ≤ f (s + k)) (hl : f (s + r) ≤ f (s + k)) : HpX lo hi s k (swf f (s + r) (s + k)) := by
  have hrk : r < k := by unfold Chl at hk; omega
  refine ⟨fun i c h1 h2 h3 h4 => ?_, fun i c h1 h2 h3 h4 => ?_⟩
  · by_cases e : i = r
    · subst e
      rw [swf_l]
      by_cases e2 : c = k
      · subst e2; rw [swf_r]; exact hl
      · rw [swf_o f (by unfold Chl at h4; omega) (by omega)]; exact hm c h3 h4
    · rw [swf_o f (k := s + i) (by omega) (by omega)]
      by_cases e2 : c = r
      · subst e2; rw [swf_l]; exact h.2 i k h1 h4 hk2 hk
      · by_cases e3 : c = k
        · subst e3; unfold Chl at hk h4; omega
        · rw [swf_o f (by omega) (by omega)]; exact h.1 i c h1 e h3 h4
  · have hi : i = r := by unfold Chl at hk h2; omega
    subst hi
    rw [swf_l]
    have hck : c ≠ k ∧ c ≠ i := by unfold Chl at h4; omega
    rw [swf_o f (by omega) (by omega)]
    exact h.1 k c (by omega) (by omega) h3 h4
theorem Hp.top {hi s : Nat} {f : Nat → Nat} (h : Hp 0 hi s f) : ∀ i, i < hi → f (s + i) ≤ f s := fun i => by
  induction i using Nat.strongRecOn with
  | _ i ih =>
    intro hi
    by_cases e : i = 0
    · subst e; exact Nat.le_refl _
    · have := h ((i - 1) / 2) i (Nat.zero_le _) hi (by unfold Chl; omega)
      exact Nat.le_trans this (ih _ (by omega) (by omega))
/-- Popping: the first m nodes are a heap, none greater than what lies behind them, which is sorted. -/
structure Pop (m h s : Nat) (f : Nat → Nat) : Prop where
  heap : Hp 0 m s f
  tail : ∀ p q, p < q → m ≤ q → q < h → f (s + p) ≤ f (s + q)
theorem Pop.start {h s : Nat} {f : Nat → Nat} (hp : Hp 0 h s f) : Pop h h s f := ⟨hp, fun p q h1 h2 h3 => by omega⟩
/-- The first exchanged with the last, and sifted down. -/
theorem Pop.step {m h s : Nat} {f f' : Nat → Nat} (hp : Pop (m + 1) h s f) (hm : m < h) (sh : Shuf s (s + m) (swf f s (s + m)) f') (hh : Hp 0 m s f') : Pop m h s f' := by
  refine ⟨hh, fun p q h1 h2 h3 => ?_⟩
  have hq : f' (s + q) = swf f s (s + m) (s + q) := sh.out _ (by omega)
  have hall : ∀ x, (∀ p', p' ≤ m → f (s + p') ≤ x) → ∀ p', p' < m → f' (s + p') ≤ x := fun x hx p' hp' => by
    refine sh.all (p := fun y => y ≤ x) (fun k k1 k2 => ?_) (s + p') (by omega) (by omega)
    by_cases e : k = s
    · subst e; rw [swf_l]; exact hx m (Nat.le_refl _)
    · rw [swf_o f e (by omega)]
      have := hx (k - s) (by omega)
      rwa [show s + (k - s) = k by omega] at this
  by_cases e : q = m
  · subst e
    rw [hq, swf_r]
    exact hall _ (fun p' hp' => hp.heap.top p' (by omega)) p (by omega)
  · rw [hq, swf_o f (by omega) (by omega)]
    by_cases e2 : p < m
    · exact hall _ (fun p' hp' => hp.tail p' q (by omega) (by omega) h3) p e2
    · have : f' (s + p) = swf f s (s + m) (s + p) := sh.out _ (by omega)
      rw [this]
      by_cases e3 : p = m
      · subst e3; rw [swf_r]; exact hp.tail 0 q (by omega) (by omega) h3
      · rw [swf_o f (by omega) (by omega)]; exact hp.tail p q h1 (by omega) h3
theorem Pop.done {h s : Nat} {f : Nat → Nat} (hp : Pop 0 h s f) : Srtd s (s + h) f := fun p q h1 h2 h3 => by
  have := hp.tail (p - s) (q - s) (by omega) (by omega) (by omega)
  rwa [show s + (p - s) = p by omega, show s + (q - s) = q by omega] at this
theorem Pop.sift {m h s : Nat} {f : Nat → Nat} (hp : Pop (m + 1) h s f) : Hp (0 + 1) m s (swf f s (s + m)) := fun i c h1 h2 h3 => by
  have : i < c := by unfold Chl at h3; omega
  rw [swf_o f (by omega) (by omega), swf_o f (by omega) (by omega)]
  exact hp.heap i c (Nat.zero_le _) (by omega) h3
theorem Hp.leaves {hi s lo : Nat} (f : Nat → Nat) (h : hi ≤ 2 * lo + 1) : Hp lo hi s f := fun i c h1 h2 h3 => by unfold Chl at h3; omega

/-! ### Partitions -/
/-- Partitioned around mid. -/
structure Prtd (a b mid : Nat) (f : Nat → Nat) : Prop where
  lo : a ≤ mid
  hi : mid < b
  left : ∀ k, a ≤ k → k < mid → f k ≤ f mid
  right : ∀ k, mid ≤ k → k < b → f mid ≤ f k
/-- On the way: the pivot lies at a. -/
structure Prt (a b i j : Nat) (f : Nat → Nat) : Prop where
  ai : a < i
  ij : i ≤ j + 1
  jb : j < b
  aj : a ≤ j
  left : ∀ k, a < k → k < i → f k < f a
  right : ∀ k, j < k → k < b → f a ≤ f k
section
variable {a b i j : Nat} {f : Nat → Nat}
theorem Prt.start (f : Nat → Nat) (h : a + 2 ≤ b) : Prt a b (a + 1) (b - 1) f := ⟨by omega, by omega, by omega, by omega, fun k h1 h2 => by omega, fun k h1 h2 => by omega⟩
theorem Prt.up (h : Prt a b i j f) (hij : i ≤ j) (hl : f i < f a) : Prt a b (i + 1) j f := ⟨by have := h.ai; omega, by omega, h.jb, h.aj, fun k h1 h2 => by
  by_cases e : k = i
  · rw [e]; exact hl
  · exact h.left k h1 (by omega), h.right⟩
theorem Prt.down (h : Prt a b i j f) (hij : i ≤ j) (hl : f a ≤ f j) : Prt a b i (j - 1) f := ⟨h.ai, by omega, by have := h.jb; omega, by have := h.ai; omega, h.left, fun k h1 h2 => by
  by_cases e : k = j
  · rw [e]; exact hl
  · exact h.right k (by omega) h2⟩
theorem Prt.both (h : Prt a b i j f) (hij : i < j) (h1 : f a ≤ f i) (h2 : f j < f a) : Prt a b (i + 1) (j - 1) (swf f i j) := by
  have ai := h.ai
  have jb := h.jb
  have ea : swf f i j a = f a := swf_o f (by omega) (by omega)
  refine ⟨by omega, by omega, by omega, by omega, fun k k1 k2 => ?_, fun k k1 k2 => ?_⟩
  · rw [ea]
    by_cases e : k = i
    · subst e; rw [swf_l]; exact h2
    · rw [swf_o f e (by omega)]; exact h.left k k1 (by omega)
  · rw [ea]
    by_cases e : k = j
    · subst e; rw [swf_r]; exact h1
    · rw [swf_o f (by omega) e]; exact h.right k (by omega) k2
theorem Prt.done (h : Prt a b i j f) (hij : j < i) : Prtd a b j (swf f j a) := by
  have ai := h.ai
  have ij := h.ij
  have aj := h.aj
  have jb := h.jb
  refine ⟨aj, jb, fun k k1 k2 => ?_, fun k k1 k2 => ?_⟩
  · rw [swf_l]
    by_cases e : k = a
    · subst e; rw [swf_r]
      by_cases e2 : j = k
      · rw [e2]; exact Nat.le_refl _
      · exact Nat.le_of_lt (h.left j (by omega) (by omega))
    · rw [swf_o f (by omega) e]; exact Nat.le_of_lt (h.left k (by omega) (by omega))
  · rw [swf_l]
    by_cases e : k = j
    · subst e; rw [swf_l]; exact Nat.le_refl _
    · rw [swf_o f e (by omega)]; exact h.right k (by omega) k2
end
/-- On the way, with what is no greater than the pivot on the left. -/
structure Pre (a b i j : Nat) (f : Nat → Nat) : Prop where
  ai : a < i
  ij : i ≤ j + 1
  jb : j < b
  left : ∀ k, a < k → k < i → f k ≤ f a
  right : ∀ k, j < k → k < b → f a < f k
section
variable {a b i j : Nat} {f : Nat → Nat}
theorem Pre.start (f : Nat → Nat) (h : a + 1 ≤ b) : Pre a b (a + 1) (b - 1) f := ⟨by omega, by omega, by omega, fun k h1 h2 => by omega, fun k h1 h2 => by omega⟩
theorem Pre.up (h : Pre a b i j f) (hij : i ≤ j) (hl : f i ≤ f a) : Pre a b (i + 1) j f := ⟨by have := h.ai; omega, by omega, h.jb, fun k h1 h2 => by
  by_cases e : k = i
  · rw [e]; exact hl
  · exact h.left k h1 (by omega), h.right⟩
theorem Pre.down (h : Pre a b i j f) (hij : i ≤ j) (hl : f a < f j) : Pre a b i (j - 1) f := ⟨h.ai, by omega, by have := h.jb; omega, h.left, fun k h1 h2 => by
  by_cases e : k = j
  · rw [e]; exact hl
  · exact h.right k (by have := h.ai; omega) h2⟩
theorem Pre.both (h : Pre a b i j f) (hij : i < j) (h1 : f a < f i) (h2 : f j ≤ f a) : Pre a b (i + 1) (j - 1) (swf f i j) := by
  have ai := h.ai
  have jb := h.jb
  have ea : swf f i j a = f a := swf_o f (by omega) (by omega)
  refine ⟨by omega, by omega, by omega, fun k k1 k2 => ?_, fun k k1 k2 => ?_⟩
  · rw [ea]
    by_cases e : k = i
    · subst e; rw [swf_l]; exact h2
    · rw [swf_o f e (by omega)]; exact h.left k k1 (by omega)
  · rw [ea]
    by_cases e : k = j
    · subst e; rw [swf_r]; exact h1
    · rw [swf_o f (by omega) e]; exact h.right k (by omega) k2
end
/-- What partitionEqual leads to. -/
structure Prte (a b mid : Nat) (f : Nat → Nat) : Prop where
  lo : a < mid
  hi : mid ≤ b
  left : ∀ k, a ≤ k → k < mid → f k ≤ f a
  right : ∀ k, mid ≤ k → k < b → f a < f k
theorem Pre.done {a b i j : Nat} {f : Nat → Nat} (h : Pre a b i j f) (hij : j < i) : Prte a b i f :=
  ⟨h.ai, by have := h.ij; have := h.jb; omega, fun k k1 k2 => by
    by_cases e : k = a
    · rw [e]; exact Nat.le_refl _
    · exact h.left k (by omega) k2, fun k k1 k2 => h.right k (by omega) k2⟩

/-! ### Joining what was sorted apart -/
theorem Prtd.blw_right {a b mid : Nat} {f : Nat → Nat} (h : Prtd a b mid f) : Blw (mid + 1) b f := fun _ k h1 h2 => by
  rw [Nat.add_sub_cancel]; exact h.right k (by omega) h2
theorem Prtd.blw_left {a b mid : Nat} {f : Nat → Nat} (h : Prtd a b mid f) (hb : Blw a b f) : Blw a mid f := fun ha k h1 h2 => hb ha k h1 (by have := h.hi; omega)
theorem Prtd.left_shuf {a b mid : Nat} {f f' : Nat → Nat} (h : Prtd a b mid f) (s : Shuf a mid f f') : Prtd a b mid f' := by
  have e : f' mid = f mid := s.out _ (by omega)
  exact ⟨h.lo, h.hi, by rw [e]; exact s.all (p := fun x => x ≤ f mid) h.left, fun k h1 h2 => by rw [e, s.out k (by omega)]; exact h.right k h1 h2⟩
theorem Prtd.right_shuf {a b mid : Nat} {f f' : Nat → Nat} (h : Prtd a b mid f) (s : Shuf (mid + 1) b f f') : Prtd a b mid f' := by
  have e : f' mid = f mid := s.out _ (by omega)
  refine ⟨h.lo, h.hi, fun k h1 h2 => by rw [e, s.out k (by omega)]; exact h.left k h1 h2, fun k h1 h2 => ?_⟩
  rw [e]
  by_cases e2 : k = mid
  · rw [e2, e]; exact Nat.le_refl _
  · exact s.all (p := fun x => f mid ≤ x) (fun k h1 h2 => h.right k (by omega) h2) k (by omega) h2
theorem Prtd.sorted {a b mid : Nat} {f : Nat → Nat} (h : Prtd a b mid f) (h1 : Srtd a mid f) (h2 : Srtd (mid + 1) b f) : Srtd a b f := fun p q p1 pq q1 => by
  rcases Nat.lt_trichotomy q mid with c | c | c
  · exact h1 p q p1 pq c
  · rw [c]; exact h.left p p1 (by omega)
  · rcases Nat.lt_trichotomy p mid with d | d | d
    · exact Nat.le_trans (h.left p p1 d) (h.right q (by omega) q1)
    · rw [d]; exact h.right q (by omega) q1
    · exact h2 p q d pq q1
theorem Prte.sorted {a b mid : Nat} {f f' : Nat → Nat} (h : Prte a b mid f) (hlow : ∀ k, a ≤ k → k < b → f a ≤ f k) (s : Shuf mid b f f') (h2 : Srtd mid b f') : Srtd a b f' := fun p q p1 pq q1 => by
  have lo := h.lo
  have hi := h.hi
  by_cases c : q < mid
  · rw [s.out p (by omega), s.out q (by omega)]
    exact Nat.le_trans (h.left p p1 (by omega)) (hlow q (by omega) (by omega))
  · by_cases d : p < mid
    · rw [s.out p (by omega)]
      exact s.all (p := fun x => f p ≤ x) (fun k k1 k2 => Nat.le_of_lt (Nat.lt_of_le_of_lt (h.left p p1 d) (h.right k k1 k2))) q (by omega) q1
    · exact h2 p q (by omega) pq q1
theorem Prte.blw {a b mid : Nat} {f : Nat → Nat} (h : Prte a b mid f) : Blw mid b f := fun _ k h1 h2 =>
  Nat.le_of_lt (Nat.lt_of_le_of_lt (h.left (mid - 1) (by have := h.lo; omega) (by have := h.lo; omega)) (h.right k h1 h2))
/-- The pivot exchanged to the front: nothing is less than it. -/
theorem low_front {a b p : Nat} {f : Nat → Nat} (hp : a ≤ p ∧ p < b) (h : ∀ k, a ≤ k → k < b → f p ≤ f k) : ∀ k, a ≤ k → k < b → swf f a p a ≤ swf f a p k := by
  rw [swf_l]
  exact (Shuf.swap f (a := a) (b := b) (by omega) hp).all (p := fun x => f p ≤ x) h
theorem low_step {a b i j : Nat} {h : Nat → Nat} (hl : ∀ k, a ≤ k → k < b → h a ≤ h k) (hi : a < i ∧ i < b) (hj : a < j ∧ j < b) : ∀ k, a ≤ k → k < b → swf h i j a ≤ swf h i j k := by
  rw [swf_o h (by omega) (by omega)]
  exact (Shuf.swap h (a := a) (b := b) (by omega) (by omega)).all (p := fun x => h a ≤ x) hl
end Wm
