/-
  Characters of words of bits: sums over a code and over all words (MACWILLIAMS), the dual code. Plain. No program in sight.
-/
import Derived.Test.YtkebldjepdhioaaLin0
import Derived.Test.YtkebldjepdhioaaPop0
import Derived.Test.YtkebldjepdhioaaBinom0
set_option linter.unusedVariables false
set_option linter.unusedSimpArgs false
namespace Wm
/-- Even or odd in what two words have in common. -/
def chi (n x y : Nat) : Int := if ones (x &&& y) n % 2 = 1 then -1 else 1
theorem chi_one (n x y : Nat) : chi n x y = 1 ∨ chi n x y = -1 := by
  unfold chi; split
  · exact .inr rfl
  · exact .inl rfl
theorem chi_comm (n x y : Nat) : chi n x y = chi n y x := by unfold chi; rw [Nat.and_comm]
theorem ones_xor (x y z : Nat) : ∀ n, ones ((x ^^^ y) &&& z) n % 2 = (ones (x &&& z) n + ones (y &&& z) n) % 2
  | 0 => rfl
  | n + 1 => by
    have ih := ones_xor x y z n
    simp only [ones, ones_bit, Nat.testBit_and, Nat.testBit_xor]
    cases x.testBit n <;> cases y.testBit n <;> cases z.testBit n <;> simp <;> omega
theorem chi_xor (n x y z : Nat) : chi n (x ^^^ y) z = chi n x z * chi n y z := by
  have h := ones_xor x y z n
  unfold chi
  by_cases h1 : ones (x &&& z) n % 2 = 1 <;> by_cases h2 : ones (y &&& z) n % 2 = 1
  · rw [if_pos h1, if_pos h2, if_neg (by omega)]; rfl
  · rw [if_pos h1, if_neg h2, if_pos (by omega)]; rfl
  · rw [if_neg h1, if_pos h2, if_pos (by omega)]; rfl
  · rw [if_neg h1, if_neg h2, if_neg (by omega)]; rfl
theorem ones_zero : ∀ n, ones 0 n = 0
  | 0 => rfl
  | n + 1 => by simp only [ones, ones_zero n]; simp
theorem chi_zero (n y : Nat) : chi n 0 y = 1 := by unfold chi; rw [Nat.zero_and, ones_zero]; rfl
/-- Sums over lists. -/
def sI (l : List Nat) (f : Nat → Int) : Int := (l.map f).sum
theorem sI_nil (f : Nat → Int) : sI [] f = 0 := rfl
theorem sI_cons (a : Nat) (l : List Nat) (f : Nat → Int) : sI (a :: l) f = f a + sI l f := by simp [sI]
theorem sI_append (l m : List Nat) (f : Nat → Int) : sI (l ++ m) f = sI l f + sI m f := by simp [sI]
theorem sI_map (g : Nat → Nat) (l : List Nat) (f : Nat → Int) : sI (l.map g) f = sI l fun x => f (g x) := by simp [sI, List.map_map, Function.comp_def]
theorem sI_congr {l : List Nat} {f g : Nat → Int} (h : ∀ x ∈ l, f x = g x) : sI l f = sI l g := by unfold sI; rw [List.map_congr_left h]
theorem sI_mul (c : Int) (l : List Nat) (f : Nat → Int) : sI l (fun x => f x * c) = sI l f * c := by
  induction l with
  | nil => simp [sI]
  | cons a l ih => rw [sI_cons, sI_cons, ih, Int.add_mul]
theorem sI_add (l : List Nat) (f g : Nat → Int) : sI l (fun x => f x + g x) = sI l f + sI l g := by
  induction l with
  | nil => simp [sI]
  | cons a l ih => rw [sI_cons, sI_cons, sI_cons, ih]; omega
theorem sI_zero (l : List Nat) : sI l (fun _ => 0) = 0 := by
  induction l with
  | nil => rfl
  | cons a l ih => rw [sI_cons, ih]; rfl
theorem sI_const (l : List Nat) (c : Int) : sI l (fun _ => c) = (l.length : Int) * c := by
  induction l with
  | nil => simp [sI]
  | cons a l ih => rw [sI_cons, ih, List.length_cons]; push_cast; rw [Int.add_mul]; omega
theorem sI_swap (l m : List Nat) (f : Nat → Nat → Int) : sI l (fun x => sI m (f x)) = sI m fun y => sI l fun x => f x y := by
  induction l with
  | nil => simp only [sI_nil]; rw [sI_zero]
  | cons a l ih =>
    rw [sI_cons, ih, ← sI_add]
    exact sI_congr fun x _ => (sI_cons a l fun z => f z x).symm
theorem sI_perm {l m : List Nat} (h : l.Perm m) (f : Nat → Int) : sI l f = sI m f := by
  induction h with
  | nil => rfl
  | cons a _ ih => rw [sI_cons, sI_cons, ih]
  | swap a b l => rw [sI_cons, sI_cons, sI_cons, sI_cons]; omega
  | trans _ _ ih1 ih2 => exact ih1.trans ih2
/-- What has evenly much in common with all of some words. -/
def perp (n : Nat) (B : List Nat) (y : Nat) : Bool := B.all fun g => decide (ones (g &&& y) n % 2 = 0)
theorem perp_iff {n : Nat} {B : List Nat} {y : Nat} : perp n B y = true ↔ ∀ g ∈ B, chi n g y = 1 := by
  unfold perp chi
  rw [List.all_eq_true]
  constructor
  · intro h g hg
    have := h g hg
    rw [decide_eq_true_eq] at this
    rw [if_neg (by omega)]
  · intro h g hg
    have := h g hg
    rw [decide_eq_true_eq]
    split at this
    · cases this
    · omega
theorem sum_code (n y : Nat) : ∀ B : List Nat, sI (ws B) (fun x => chi n x y) = if perp n B y = true then ((2 ^ B.length : Nat) : Int) else 0 := snoc_ind (by
  rw [ws_nil, sI_cons, sI_nil, chi_zero, if_pos (by rfl)]; rfl) fun B g ih => by
  rw [ws_snoc, sI_append, sI_map]
  rw [sI_congr (l := ws B) (f := fun x => chi n (x ^^^ g) y) (g := fun x => chi n x y * chi n g y) fun x _ => chi_xor n x g y, sI_mul, ih]
  by_cases h : perp n B y = true
  · rw [if_pos h]
    rcases chi_one n g y with hg | hg
    · rw [if_pos (perp_iff.2 fun x hx => by
        rcases List.mem_append.1 hx with h1 | h1
        · exact perp_iff.1 h x h1
        · rw [List.mem_singleton.1 h1]; exact hg), hg, List.length_append, List.length_singleton, Nat.pow_succ]
      push_cast; omega
    · have hno : ¬ perp n (B ++ [g]) y = true := fun h2 => by
        have := perp_iff.1 h2 g (by simp)
        rw [hg] at this
        exact absurd this (by decide)
      rw [if_neg hno, hg]
      omega
  · rw [if_neg h, if_neg (fun h2 => h (perp_iff.2 fun x hx => perp_iff.1 h2 x (by simp [hx])))]
    omega
/-- All words of n bits, from those of one less. -/
theorem range_two (n : Nat) : List.range (2 ^ (n + 1)) = List.range (2 ^ n) ++ (List.range (2 ^ n)).map (fun y => 2 ^ n + y) := by
  rw [Nat.pow_succ, Nat.mul_two, List.range_add]
theorem bit_low {n k y : Nat} (_ : y < 2 ^ n) (hk : k < n) : (2 ^ n + y).testBit k = y.testBit k := by
  rw [Nat.testBit_two_pow_add_gt hk]
theorem bit_top {n y : Nat} (hy : y < 2 ^ n) : (2 ^ n + y).testBit n = true := by
  rw [Nat.testBit_two_pow_add_eq, Nat.testBit_lt_two_pow hy]; rfl
theorem ones_congr {a b : Nat} : ∀ n, (∀ k, k < n → a.testBit k = b.testBit k) → ones a n = ones b n
  | 0, _ => rfl
  | n + 1, h => by simp only [ones, ones_bit]; rw [ones_congr n fun k hk => h k (by omega), h n (by omega)]
theorem ones_low {n y : Nat} (hy : y < 2 ^ n) : ones y (n + 1) = ones y n := by
  simp only [ones, ones_bit, Nat.testBit_lt_two_pow hy]; rfl
theorem ones_top {n y : Nat} (hy : y < 2 ^ n) : ones (2 ^ n + y) (n + 1) = ones y n + 1 := by
  simp only [ones, ones_bit, bit_top hy]
  rw [ones_congr n fun k hk => bit_low hy hk]; rfl
theorem chi_low {n y : Nat} (x : Nat) (hy : y < 2 ^ n) : chi (n + 1) x y = chi n x y := by
  unfold chi
  have : ones (x &&& y) (n + 1) = ones (x &&& y) n := ones_low (Nat.lt_of_le_of_lt Nat.and_le_right hy)
  rw [this]
def sgn (x n : Nat) : Int := if x.testBit n then -1 else 1
theorem chi_top {n y : Nat} (x : Nat) (hy : y < 2 ^ n) : chi (n + 1) x (2 ^ n + y) = chi n x y * sgn x n := by
  have h1 : ones (x &&& (2 ^ n + y)) n = ones (x &&& y) n := ones_congr n fun k hk => by rw [Nat.testBit_and, Nat.testBit_and, bit_low hy hk]
  have h2 : ones (x &&& (2 ^ n + y)) (n + 1) = ones (x &&& y) n + (x.testBit n).toNat := by
    simp only [ones, ones_bit]
    rw [h1, Nat.testBit_and, bit_top hy, Bool.and_true]
  unfold chi sgn
  rw [h2]
  cases x.testBit n
  · simp
  · by_cases h : ones (x &&& y) n % 2 = 1
    · rw [if_pos h, if_neg (by simp; omega)]; simp
    · rw [if_neg h, if_pos (by simp; omega)]; simp
/-- Over all words. -/
theorem sum_all (x : Nat) : ∀ n, x < 2 ^ n → sI (List.range (2 ^ n)) (fun y => chi n x y) = if x = 0 then ((2 ^ n : Nat) : Int) else 0 := by
  have key : ∀ n, sI (List.range (2 ^ (n + 1))) (fun y => chi (n + 1) x y) = sI (List.range (2 ^ n)) (fun y => chi n x y) + sI (List.range (2 ^ n)) (fun y => chi n x y) * sgn x n := fun n => by
    rw [range_two, sI_append, sI_map]
    congr 1
    · exact sI_congr fun y hy => chi_low x (List.mem_range.1 hy)
    · rw [← sI_mul]
      exact sI_congr fun y hy => chi_top x (List.mem_range.1 hy)
  have zero : ∀ n, (∃ k, k < n ∧ x.testBit k = true) → sI (List.range (2 ^ n)) (fun y => chi n x y) = 0 := fun n => by
    induction n with
    | zero => rintro ⟨k, hk, -⟩; omega
    | succ n ih =>
      rintro ⟨k, hk, hb⟩
      rw [key]
      by_cases h : x.testBit n = true
      · unfold sgn; rw [if_pos h]; omega
      · have hkn : k ≠ n := fun e => h (e ▸ hb)
        rw [ih ⟨k, by omega, hb⟩]; omega
  intro n hx
  by_cases h0 : x = 0
  · rw [if_pos h0]
    subst h0
    rw [sI_congr (g := fun _ => 1) fun y _ => chi_zero n y]
    rw [sI_const, List.length_range, Int.mul_one]
  · rw [if_neg h0]
    refine zero n ⟨x.log2, (Nat.log2_lt h0).2 hx, lead_bit h0⟩
/-- KRAWTCHOUK's numbers. -/
def krS (n i j : Nat) : Nat → Int
  | 0 => 0
  | s + 1 => krS n i j s + (if s % 2 = 1 then -1 else 1) * ((C i s * C (n - i) (j - s) : Nat) : Int)
def kr (n i j : Nat) : Int := krS n i j (j + 1)
theorem kr_rec : (List.range 12).all (fun n => (List.range (n + 1)).all fun i => (List.range 13).all fun j =>
    decide (kr (n + 1) i (j + 1) = kr n i (j + 1) + kr n i j) && decide (kr (n + 1) (i + 1) (j + 1) = kr n i (j + 1) - kr n i j)) = true := by decide +kernel
theorem kr_rec0 : (List.range 12).all (fun n => (List.range (n + 1)).all fun i => decide (kr (n + 1) i 0 = kr n i 0) && decide (kr (n + 1) (i + 1) 0 = kr n i 0)) = true := by decide +kernel
def atW (n j : Nat) (y : Nat) (v : Int) : Int := if ones y n = j then v else 0
theorem sum_weight (x : Nat) : ∀ n, n ≤ 12 → ∀ j, j ≤ 13 → sI (List.range (2 ^ n)) (fun y => atW n j y (chi n x y)) = kr n (ones x n) j
  | 0, _, j, hj => by
    have h : (List.range 14).all (fun j => decide ((if (0 : Nat) = j then (1 : Int) else 0) = kr 0 0 j)) = true := by decide +kernel
    have := List.all_eq_true.1 h j (List.mem_range.2 (by omega))
    rw [decide_eq_true_eq] at this
    show sI [0] _ = kr 0 0 j
    rw [sI_cons, sI_nil, ← this, chi_comm, chi_zero]
    show (if (0 : Nat) = j then (1 : Int) else 0) + 0 = _
    omega
  | n + 1, hn, j, hj => by
    have hi := ones_le x n
    have low : sI (List.range (2 ^ n)) (fun y => atW (n + 1) j y (chi (n + 1) x y)) = kr n (ones x n) j := by
      rw [← sum_weight x n (by omega) j hj]
      refine sI_congr fun y hy => ?_
      have hy := List.mem_range.1 hy
      unfold atW
      rw [ones_low hy, chi_low x hy]
    rw [range_two, sI_append, sI_map, low]
    cases j with
    | zero =>
      have top : sI (List.range (2 ^ n)) (fun y => atW (n + 1) 0 (2 ^ n + y) (chi (n + 1) x (2 ^ n + y))) = 0 := by
        rw [← sI_zero (List.range (2 ^ n))]
        refine sI_congr fun y hy => ?_
        unfold atW
        rw [ones_top (List.mem_range.1 hy), if_neg (by omega)]
      rw [top]
      have h := List.all_eq_true.1 (List.all_eq_true.1 kr_rec0 n (List.mem_range.2 (by omega))) (ones x n) (List.mem_range.2 (by omega))
      simp only [Bool.and_eq_true, decide_eq_true_eq] at h
      simp only [ones, ones_bit]
      cases x.testBit n
      · simp only [Bool.toNat_false, Nat.add_zero]; omega
      · simp only [Bool.toNat_true]; omega
    | succ j =>
      have top : sI (List.range (2 ^ n)) (fun y => atW (n + 1) (j + 1) (2 ^ n + y) (chi (n + 1) x (2 ^ n + y))) = kr n (ones x n) j * sgn x n := by
        rw [← sum_weight x n (by omega) j (by omega), ← sI_mul]
        refine sI_congr fun y hy => ?_
        have hy := List.mem_range.1 hy
        unfold atW
        rw [ones_top hy, chi_top x hy]
        by_cases h : ones y n = j
        · rw [if_pos h, if_pos (by omega)]
        · rw [if_neg h, if_neg (by omega), Int.zero_mul]
      rw [top]
      have h := List.all_eq_true.1 (List.all_eq_true.1 (List.all_eq_true.1 kr_rec n (List.mem_range.2 (by omega))) (ones x n) (List.mem_range.2 (by omega))) j (List.mem_range.2 (by omega))
      simp only [Bool.and_eq_true, decide_eq_true_eq] at h
      unfold sgn
      simp only [ones, ones_bit]
      cases x.testBit n
      · simp only [Bool.toNat_false, Nat.add_zero, Bool.false_eq_true, ↓reduceIte]; omega
      · simp only [Bool.toNat_true, ↓reduceIte]; omega
/-- The dual. -/
def du (n : Nat) (B : List Nat) : List Nat := (List.range (2 ^ n)).filter (perp n B)
theorem du_mem {n : Nat} {B : List Nat} {y : Nat} : y ∈ du n B ↔ y < 2 ^ n ∧ perp n B y = true := by
  unfold du; rw [List.mem_filter, List.mem_range]
theorem du_nodup (n : Nat) (B : List Nat) : (du n B).Nodup := List.Pairwise.filter _ List.nodup_range
theorem sI_filter (p : Nat → Bool) (l : List Nat) (f : Nat → Int) : sI l (fun y => if p y = true then f y else 0) = sI (l.filter p) f := by
  induction l with
  | nil => rfl
  | cons a l ih =>
    rw [sI_cons, ih, List.filter_cons]
    by_cases h : p a = true
    · rw [if_pos h, if_pos h, sI_cons]
    · rw [if_neg h, if_neg h]; omega
/-- MACWILLIAMS, for one weight. -/
theorem williams {n : Nat} (hn : n ≤ 12) (B : List Nat) {j : Nat} (hj : j ≤ 13) :
    sI (ws B) (fun x => kr n (ones x n) j) = (((du n B).filter fun y => decide (ones y n = j)).length : Int) * ((2 ^ B.length : Nat) : Int) := by
  rw [sI_congr (g := fun x => sI (List.range (2 ^ n)) (fun y => atW n j y (chi n x y))) fun x _ => (sum_weight x n hn j hj).symm, sI_swap]
  have : ∀ y, sI (ws B) (fun x => atW n j y (chi n x y)) = if (perp n B y && decide (ones y n = j)) = true then ((2 ^ B.length : Nat) : Int) else 0 := fun y => by
    unfold atW
    by_cases h : ones y n = j
    · rw [sI_congr (g := fun x => chi n x y) fun x _ => if_pos h, sum_code, decide_eq_true h, Bool.and_true]
    · rw [sI_congr (g := fun _ => 0) fun x _ => if_neg h, sI_zero, decide_eq_false h, Bool.and_false, if_neg (by decide)]
  rw [sI_congr fun y _ => this y, sI_filter, sI_const]
  unfold du
  rw [List.filter_filter]
  congr 3
  apply List.filter_congr
  intro y _
  rw [Bool.and_comm]
theorem sI_count0 : ∀ {l : List Nat}, l.Nodup → 0 ∈ l → ∀ c : Int, sI l (fun x => if x = 0 then c else 0) = c := fun {l} hn h0 c => by
  induction l with
  | nil => cases h0
  | cons a l ih =>
    have hna := (List.nodup_cons.1 hn).1
    rw [sI_cons]
    rcases List.mem_cons.1 h0 with h | h
    · subst h
      have hz : ∀ x ∈ l, (if x = 0 then c else 0) = (fun _ : Nat => (0 : Int)) x := fun x hx => if_neg (fun e : x = 0 => hna (by rw [← e]; exact hx))
      rw [if_pos rfl, sI_congr hz, sI_zero]; omega
    · have ha : ¬ a = 0 := fun e => hna (by rw [e]; exact h)
      rw [if_neg ha, ih (List.nodup_cons.1 hn).2 h]; omega
/-- The dual has all that the code leaves. -/
theorem du_len {n : Nat} {B : List Nat} (R : Red B) (hl : ∀ b ∈ B, b < 2 ^ n) : (du n B).length * 2 ^ B.length = 2 ^ n := by
  have h1 : sI (ws B) (fun x => sI (List.range (2 ^ n)) (fun y => chi n x y)) = ((2 ^ n : Nat) : Int) := by
    rw [sI_congr (g := fun x => if x = 0 then ((2 ^ n : Nat) : Int) else 0) fun x hx => sum_all x n (ws_lt hl x hx)]
    exact sI_count0 (Red.free B R) (ws_zero B) _
  rw [sI_swap, sI_congr (g := fun y => if perp n B y = true then ((2 ^ B.length : Nat) : Int) else 0) fun y _ => sum_code n y B, sI_filter, sI_const] at h1
  have h2 : (((du n B).length * 2 ^ B.length : Nat) : Int) = ((2 ^ n : Nat) : Int) := by rw [Int.natCast_mul]; exact h1
  exact_mod_cast h2
/-- It depends on the sums alone. -/
theorem perp_ws {n : Nat} {B : List Nat} {y : Nat} (h : perp n B y = true) : ∀ x ∈ ws B, chi n x y = 1 :=
  ws_min (P := fun x => chi n x y = 1) (chi_zero n y) (fun a b ha hb => by rw [chi_xor, ha, hb]; rfl) B (perp_iff.1 h)
theorem perp_congr {n : Nat} {B C : List Nat} (h : ∀ x, x ∈ ws B ↔ x ∈ ws C) (y : Nat) : perp n B y = perp n C y := by
  rw [Bool.eq_iff_iff]
  constructor
  · exact fun hp => perp_iff.2 fun g hg => perp_ws hp g ((h g).2 (ws_gen C g hg))
  · exact fun hp => perp_iff.2 fun g hg => perp_ws hp g ((h g).1 (ws_gen B g hg))
theorem du_congr {n : Nat} {B C : List Nat} (h : ∀ x, x ∈ ws B ↔ x ∈ ws C) : du n B = du n C := by
  unfold du
  exact List.filter_congr fun y _ => perp_congr h y
theorem du_zero (n : Nat) (B : List Nat) : 0 ∈ du n B := du_mem.2 ⟨Nat.two_pow_pos n, perp_iff.2 fun g _ => by rw [chi_comm]; exact chi_zero n g⟩
theorem du_xor {n : Nat} {B : List Nat} (x y : Nat) (hx : x ∈ du n B) (hy : y ∈ du n B) : x ^^^ y ∈ du n B := by
  rw [du_mem] at *
  refine ⟨Nat.xor_lt_two_pow hx.1 hy.1, perp_iff.2 fun g hg => ?_⟩
  rw [chi_comm, chi_xor, chi_comm n x, chi_comm n y, perp_iff.1 hx.2 g hg, perp_iff.1 hy.2 g hg]; rfl
/-- The sums of the dual's words are the dual's words. -/
theorem du_ws (n : Nat) (B : List Nat) (x : Nat) : x ∈ ws (du n B) ↔ x ∈ du n B :=
  ⟨ws_min (P := fun x => x ∈ du n B) (du_zero n B) (fun a b ha hb => du_xor a b ha hb) (du n B) (fun g hg => hg) x, ws_gen _ x⟩
theorem du_back {n : Nat} {B : List Nat} (hl : ∀ b ∈ B, b < 2 ^ n) : ∀ x ∈ ws B, x ∈ du n (du n B) := fun x hx =>
  du_mem.2 ⟨ws_lt hl x hx, perp_iff.2 fun g hg => by rw [chi_comm]; exact perp_ws (du_mem.1 hg).2 x hx⟩
end Wm
