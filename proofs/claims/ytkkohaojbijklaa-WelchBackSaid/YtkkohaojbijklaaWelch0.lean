/-
  Plain: the nearest code row (Berlekamp, Welch), by trying all sets of places. No program in sight.
-/
import Derived.Test.YtkkohaojbijklaaReed1
import Derived.Test.YtkkohaojbijklaaPop0
set_option linter.unusedVariables false
set_option linter.unusedSimpArgs false
namespace Wm

theorem pk_congr {f g : Nat → Bool} : ∀ n, (∀ i, i < n → f i = g i) → pk f n = pk g n
  | 0, _ => rfl
  | n + 1, h => by
    simp only [pk]
    rw [pk_congr n fun i hi => h i (by omega), h n (by omega)]
theorem cntR_congr {f g : Nat → Bool} : ∀ n, (∀ i, i < n → f i = g i) → cntR f n = cntR g n
  | 0, _ => rfl
  | n + 1, h => by
    simp only [cntR]
    rw [cntR_congr n fun i hi => h i (by omega), h n (by omega)]
theorem cntR_mono {f g : Nat → Bool} : ∀ n, (∀ i, i < n → f i = true → g i = true) → cntR f n ≤ cntR g n
  | 0, _ => Nat.le_refl _
  | n + 1, h => by
    simp only [cntR]
    have h1 := cntR_mono n fun i hi => h i (by omega)
    have h2 : (f n).toNat ≤ (g n).toNat := by
      cases hf : f n
      · exact Nat.zero_le _
      · rw [h n (by omega) hf]; exact Nat.le_refl _
    omega
theorem cntR_ones (s : Nat) : ∀ n, cntR (fun i => s.testBit i) n = ones s n
  | 0 => rfl
  | n + 1 => by
    simp only [cntR, ones]
    rw [cntR_ones s n, ones_bit]
/-- A set of places as a number. -/
theorem set_of (f : Nat → Bool) : ∀ n, ∃ s, s < 2 ^ n ∧ ∀ i, i < n → s.testBit i = f i
  | 0 => ⟨0, by simp, fun i h => absurd h (by omega)⟩
  | n + 1 => by
    obtain ⟨s, h1, h2⟩ := set_of f n
    refine ⟨2 ^ n * (f n).toNat + s, ?_, fun i hi => ?_⟩
    · rw [Nat.pow_succ]
      cases f n <;> simp <;> omega
    · rw [Nat.testBit_two_pow_mul_add _ h1]
      by_cases h : i < n
      · rw [if_pos h]; exact h2 i h
      · rw [if_neg h]
        obtain rfl : i = n := by omega
        rw [Nat.sub_self]
        cases f i <;> simp
/-- So many of them. -/
theorem some_of (f : Nat → Bool) : ∀ n k, k ≤ cntR f n → ∃ g : Nat → Bool, (∀ i, i < n → g i = true → f i = true) ∧ cntR g n = k
  | 0, k, h => ⟨f, fun i hi => absurd hi (by omega), by simp only [cntR] at h ⊢; omega⟩
  | n + 1, k, h => by
    simp only [cntR] at h
    by_cases hk : k ≤ cntR f n
    · obtain ⟨g, h1, h2⟩ := some_of f n k hk
      refine ⟨fun i => if i < n then g i else false, fun i hi hg => ?_, ?_⟩
      · dsimp only at hg
        by_cases hin : i < n
        · rw [if_pos hin] at hg; exact h1 i hin hg
        · rw [if_neg hin] at hg; cases hg
      · simp only [cntR]
        rw [cntR_congr n (g := g) fun i hi => by rw [if_pos hi], if_neg (by omega)]
        simpa using h2
    · have hfn : f n = true := by
        cases hf : f n
        · rw [hf] at h; simp at h; omega
        · rfl
      obtain ⟨g, h1, h2⟩ := some_of f n (k - 1) (by rw [hfn] at h; simp at h; omega)
      refine ⟨fun i => if i < n then g i else true, fun i hi hg => ?_, ?_⟩
      · dsimp only at hg
        by_cases hin : i < n
        · rw [if_pos hin] at hg; exact h1 i hin hg
        · obtain rfl : i = n := by omega
          exact hfn
      · simp only [cntR]
        rw [cntR_congr n (g := g) fun i hi => by rw [if_pos hi], if_neg (by omega), h2]
        simp; omega

/-- The row through the bytes that a set of places picks; how many others it misses. -/
def rowS (l : List Nat) (s n : Nat) : List Nat := rowL (pk (fun i => s.testBit i) n) ((pk (fun i => s.testBit i) n).map fun i => l.getD i 0) n
def off (r l : List Nat) (n : Nat) : Nat := cntR (fun i => decide (r.getD i 0 ≠ l.getD i 0)) n
theorem rowS_length (l : List Nat) (s n : Nat) : (rowS l s n).length = n := rowL_length ..
theorem pick_b {l p : List Nat} (hl : B256 l) : B256 (p.map fun i => l.getD i 0) := B256.of fun x hx => by
  obtain ⟨i, -, rfl⟩ := List.mem_map.1 hx
  exact hl i
theorem pk_b (f : Nat → Bool) {n : Nat} (hn : n ≤ 256) : B256 (pk f n) := B256.of fun x hx => by have := (pk_mem n hx).1; omega
theorem rowS_b {l : List Nat} (hl : B256 l) (s : Nat) {n : Nat} (hn : n ≤ 256) : B256 (rowS l s n) := rowL_lt (pk_b _ hn) (pick_b hl) hn
theorem rowS_at {l : List Nat} (hl : B256 l) {s n i : Nat} (hn : n ≤ 256) (hi : i < (pk (fun i => s.testBit i) n).length) : (rowS l s n).getD ((pk (fun i => s.testBit i) n).getD i 0) 0 = l.getD ((pk (fun i => s.testBit i) n).getD i 0) 0 := by
  have hm : (pk (fun i => s.testBit i) n).getD i 0 ∈ pk (fun i => s.testBit i) n := by
    rw [List.getD_eq_getElem?_getD, List.getElem?_eq_getElem hi]; exact List.getElem_mem _
  unfold rowS
  rw [rowL_get (pk_mem n hm).1, rby_at (pk_b _ hn) (pick_b hl) (fun i j hi hj e => getD_inj (pk_nodup _ n) hi hj e) hi, getD_map_ 0 hi]
/-- It is a code row. -/
theorem rowS_code {l : List Nat} (hl : B256 l) {s n k : Nat} (hn : n ≤ 256) (hk : (pk (fun i => s.testBit i) n).length = k) (hkn : k ≤ n) : rowS l s n = putL ((rowS l s n).take k) n := by
  have hlen : ((rowS l s n).take k).length = k := by rw [List.length_take, rowS_length]; omega
  have hd : B256 ((rowS l s n).take k) := B256.of fun x hx => (rowS_b hl s hn).mem x (List.mem_of_mem_take hx)
  apply list_ext_getD (by rw [rowS_length, putL_length])
  intro x hx
  rw [rowS_length] at hx
  rw [putL_get hx, hlen]
  show (rowL _ _ n).getD x 0 = _
  rw [rowL_get hx, hk]
  refine rby_unique (pk_b _ hn) (pick_b hl) (B256.range (by omega)) hd (u := fun i => (List.range k).getD i 0) (fun i hi => by rw [getD_range hi]; omega) (fun i j hi hj e => by rwa [getD_range hi, getD_range hj] at e) (fun i hi => ?_) (by omega)
  have e1 := rby_at (p := fun i => (List.range k).getD i 0) (b := fun i => ((rowS l s n).take k).getD i 0) (n := k) (B256.range (by omega)) hd (fun i j hi hj e => by rwa [getD_range hi, getD_range hj] at e) hi
  rw [e1]
  show _ = ((rowS l s n).take k).getD i 0
  have e2 : ((rowS l s n).take k).getD i 0 = (rowS l s n).getD i 0 := by
    rw [List.getD_eq_getElem?_getD, List.getElem?_take_of_lt hi, ← List.getD_eq_getElem?_getD]
  rw [e2, getD_range hi]
  unfold rowS
  rw [rowL_get (by omega), hk]
/-- Near to a code row there is a set that makes it. -/
theorem welch_found {d l : List Nat} {n t : Nat} (hd : B256 d) (hl : B256 l) (hn : n ≤ 256) (hk : d.length ≤ n) (ht : off (putL d n) l n ≤ t) (hs : t + d.length ≤ n) : ∃ s, s < 2 ^ n ∧ ones s n = d.length ∧ rowS l s n = putL d n := by
  have h1 := cntR_not (fun i => decide ((putL d n).getD i 0 = l.getD i 0)) n
  have h3 : (fun i => !decide ((putL d n).getD i 0 = l.getD i 0)) = fun i => decide ((putL d n).getD i 0 ≠ l.getD i 0) := by funext i; simp
  rw [h3] at h1
  unfold off at ht
  obtain ⟨g, hg1, hg2⟩ := some_of (fun i => decide ((putL d n).getD i 0 = l.getD i 0)) n d.length (by omega)
  obtain ⟨s, hs1, hs2⟩ := set_of g n
  have hpk : pk (fun i => s.testBit i) n = pk g n := pk_congr n hs2
  have hlen : (pk (fun i => s.testBit i) n).length = d.length := by rw [hpk, pk_length, hg2]
  refine ⟨s, hs1, by rw [← cntR_ones, ← pk_length, hlen], ?_⟩
  unfold rowS
  refine mend_row hd hn (pk_nodup _ n) (fun x hx => (pk_mem n hx).1) hlen hk (pick_b hl) fun i hi => ?_
  have hm : (pk (fun i => s.testBit i) n).getD i 0 ∈ pk (fun i => s.testBit i) n := by
    rw [List.getD_eq_getElem?_getD, List.getElem?_eq_getElem hi]; exact List.getElem_mem _
  rw [getD_map_ 0 hi]
  obtain ⟨q1, q2⟩ := pk_mem n hm
  have := hg1 _ q1 (by rw [← hs2 _ q1]; exact q2)
  exact (of_decide_eq_true this).symm
theorem off_sum {r q l : List Nat} (n : Nat) : n ≤ cntR (fun i => decide (r.getD i 0 = q.getD i 0)) n + off r l n + off q l n := by
  induction n with
  | zero => exact Nat.zero_le _
  | succ n ih =>
    unfold off at ih ⊢
    simp only [cntR]
    have : 1 ≤ (decide (r.getD n 0 = q.getD n 0)).toNat + (decide (r.getD n 0 ≠ l.getD n 0)).toNat + (decide (q.getD n 0 ≠ l.getD n 0)).toNat := by
      by_cases h2 : q.getD n 0 = l.getD n 0
      · by_cases h1 : r.getD n 0 = l.getD n 0
        · rw [decide_eq_true (show r.getD n 0 = q.getD n 0 by rw [h1, h2])]; simp; omega
        · rw [decide_eq_true (show r.getD n 0 ≠ l.getD n 0 from h1)]; simp; omega
      · rw [decide_eq_true (show q.getD n 0 ≠ l.getD n 0 from h2)]; simp
    omega
/-- Two code rows that are near to one word are one. -/
theorem welch_one {d e l : List Nat} {n t : Nat} (hd : B256 d) (he : B256 e) (hn : n ≤ 256) (hk : d.length ≤ n) (hde : d.length = e.length) (h1 : off (putL d n) l n ≤ t) (h2 : off (putL e n) l n ≤ t) (ht : 2 * t + d.length ≤ n) : d = e := by
  have h3 := off_sum (r := putL d n) (q := putL e n) (l := l) n
  refine rows_agree hd he hn hk hde (pk_nodup (fun i => decide ((putL d n).getD i 0 = (putL e n).getD i 0)) n) (by rw [pk_length]; omega) fun x hx => ?_
  have := pk_mem n hx
  exact ⟨this.1, of_decide_eq_true this.2⟩

/-- How math/bits counts. -/
def pop64 (v : Nat) : Nat :=
  let a := ((v / 2) &&& 6148914691236517205) + (v &&& 6148914691236517205)
  let b := ((a / 4) &&& 3689348814741910323) + (a &&& 3689348814741910323)
  let c := (b / 16 + b) &&& 1085102592571150095
  let d := c + c / 256
  let e := d + d / 65536
  let f := e + e / 4294967296
  f &&& 127
theorem pop64_all : (List.range 4096).all (fun v => pop64 v == ones v 12) = true := by decide +kernel
theorem pop64_ones {v : Nat} (h : v < 4096) : pop64 v = ones v 12 := by
  have := List.all_eq_true.1 pop64_all v (List.mem_range.2 h)
  simpa using this
end Wm
