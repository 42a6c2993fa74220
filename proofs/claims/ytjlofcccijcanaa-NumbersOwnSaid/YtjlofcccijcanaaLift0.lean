/-
  Plain: sums over divisors as two loops make them, with a weight; their inversion up to 60. No program in sight.
-/
import Derived.Test.YtjlofcccijcanaaDivs0
set_option linter.unusedVariables false
set_option linter.unusedSimpArgs false
namespace Wm

def cv (f : List Int) (g : Nat → Int) (i : Nat) : Nat → Int
  | 0 => 0
  | d + 1 => cv f g i d + if (i + 1) % (d + 1) = 0 then f.getD d 0 * g ((i + 1) / (d + 1)) else 0
def cvAt (f : List Int) (g : Nat → Int) (d k i : Nat) : Int := cv f g i d + if (i + 1) % (d + 1) = 0 ∧ (i + 1) / (d + 1) < k then f.getD d 0 * g ((i + 1) / (d + 1)) else 0
def cvs (f : List Int) (g : Nat → Int) (n d k : Nat) : List Int := (List.range n).map (cvAt f g d k)
def conv (f : List Int) (g : Nat → Int) (n d : Nat) : List Int := (List.range n).map fun i => cv f g i d
theorem cvs_length (f : List Int) (g : Nat → Int) (n d k : Nat) : (cvs f g n d k).length = n := by simp [cvs]
theorem cvs_one (f : List Int) (g : Nat → Int) (n d : Nat) : conv f g n d = cvs f g n d 1 := by
  unfold conv cvs
  apply List.map_congr_left
  intro i hi
  unfold cvAt
  rw [if_neg, Int.add_zero]
  rintro ⟨h1, h2⟩
  have := Nat.div_add_mod (i + 1) (d + 1)
  have h3 : (i + 1) / (d + 1) = 0 := Nat.lt_one_iff.1 h2
  rw [h3, h1] at this
  omega
theorem cvs_end {f : List Int} {g : Nat → Int} {n d k : Nat} (h : n < (d + 1) * k) : cvs f g n d k = conv f g n (d + 1) := by
  unfold conv cvs
  apply List.map_congr_left
  intro i hi
  rw [List.mem_range] at hi
  unfold cvAt
  simp only [cv]
  by_cases h1 : (i + 1) % (d + 1) = 0
  · rw [if_pos h1, if_pos ⟨h1, (Nat.div_lt_iff_lt_mul (by omega)).2 (by rw [Nat.mul_comm]; omega)⟩]
  · rw [if_neg h1, if_neg (fun h => h1 h.1)]
theorem cvs_get {f : List Int} {g : Nat → Int} {n d k i : Nat} (h : i < n) : (cvs f g n d k).getD i 0 = cvAt f g d k i := by
  unfold cvs
  rw [List.getD_eq_getElem?_getD, List.getElem?_map, List.getElem?_range h]; rfl
theorem cvs_step {f : List Int} {g : Nat → Int} {n d k i : Nat} (hi : i + 1 = (d + 1) * k) (hin : i < n) : (cvs f g n d k).set i (cvAt f g d k i + f.getD d 0 * g k) = cvs f g n d (k + 1) := by
  apply List.ext_getElem (by simp [cvs])
  intro j h1 h2
  rw [List.getElem_set]
  simp only [cvs, List.getElem_map, List.getElem_range]
  have hk : (i + 1) / (d + 1) = k := by rw [hi, Nat.mul_div_cancel_left _ (by omega)]
  have hm : (i + 1) % (d + 1) = 0 := by rw [hi, Nat.mul_mod_right]
  by_cases e : i = j
  · subst e
    rw [if_pos rfl]
    unfold cvAt
    rw [hk, if_neg (by omega), if_pos ⟨hm, by omega⟩, Int.add_zero]
  · rw [if_neg e]
    unfold cvAt
    congr 1
    by_cases h3 : (j + 1) % (d + 1) = 0
    · have hne : (j + 1) / (d + 1) ≠ k := fun h4 => e (by
        have := Nat.div_add_mod (j + 1) (d + 1)
        rw [h3, h4, Nat.add_zero] at this
        omega)
      by_cases h5 : (j + 1) / (d + 1) < k
      · rw [if_pos ⟨h3, h5⟩, if_pos ⟨h3, by omega⟩]
      · rw [if_neg (fun h => h5 h.2), if_neg (fun h => by omega)]
    · rw [if_neg (fun h => h3 h.1), if_neg (fun h => h3 h.1)]
theorem abs_le_mul {x y B : Int} (hx : -B ≤ x ∧ x ≤ B) (hy : -1 ≤ y ∧ y ≤ 1) : -B ≤ x * y ∧ x * y ≤ B := by
  have : y = -1 ∨ y = 0 ∨ y = 1 := by omega
  rcases this with rfl | rfl | rfl <;> omega
theorem cv_bound {f : List Int} {g : Nat → Int} (hf : ∀ d, -1000000000 ≤ f.getD d 0 ∧ f.getD d 0 ≤ 1000000000) (hg : ∀ k, -1 ≤ g k ∧ g k ≤ 1) (i : Nat) : ∀ d : Nat, -(1000000000 * (d : Int)) ≤ cv f g i d ∧ cv f g i d ≤ 1000000000 * (d : Int)
  | 0 => by simp [cv]
  | d + 1 => by
    have ih := cv_bound hf hg i d
    have h := abs_le_mul (B := 1000000000) (hf d) (hg ((i + 1) / (d + 1)))
    simp only [cv]
    split <;> push_cast <;> omega
theorem cvAt_bound {f : List Int} {g : Nat → Int} (hf : ∀ d, -1000000000 ≤ f.getD d 0 ∧ f.getD d 0 ≤ 1000000000) (hg : ∀ k, -1 ≤ g k ∧ g k ≤ 1) (d k i : Nat) (hd : d ≤ 60) : -70000000000 ≤ cvAt f g d k i ∧ cvAt f g d k i ≤ 70000000000 := by
  have ih := cv_bound hf hg i d
  have h := abs_le_mul (B := 1000000000) (hf d) (hg ((i + 1) / (d + 1)))
  unfold cvAt
  split <;> omega

/-! ### Inversion -/
/-- The sum of h 0 .. h (n - 1). -/
def sumZ (h : Nat → Int) : Nat → Int
  | 0 => 0
  | n + 1 => sumZ h n + h n
theorem sumZ_congr {f g : Nat → Int} : ∀ n, (∀ i, i < n → f i = g i) → sumZ f n = sumZ g n
  | 0, _ => rfl
  | n + 1, h => by
    simp only [sumZ]
    rw [sumZ_congr n fun i hi => h i (by omega), h n (by omega)]
theorem sumZ_add (f g : Nat → Int) : ∀ n, sumZ (fun i => f i + g i) n = sumZ f n + sumZ g n
  | 0 => rfl
  | n + 1 => by simp only [sumZ]; rw [sumZ_add f g n]; omega
theorem sumZ_mul (c : Int) (f : Nat → Int) : ∀ n, sumZ (fun i => f i * c) n = sumZ f n * c
  | 0 => by simp [sumZ]
  | n + 1 => by simp only [sumZ]; rw [sumZ_mul c f n, Int.add_mul]
theorem sumZ_zero : ∀ n, sumZ (fun _ => 0) n = 0
  | 0 => rfl
  | n + 1 => by simp only [sumZ]; rw [sumZ_zero n]; rfl
theorem sumZ_swap (f : Nat → Nat → Int) : ∀ m n, sumZ (fun i => sumZ (fun j => f i j) n) m = sumZ (fun j => sumZ (fun i => f i j) m) n
  | 0, n => by simp only [sumZ]; rw [sumZ_zero]
  | m + 1, n => by
    simp only [sumZ]
    rw [sumZ_swap f m n, sumZ_add]
def wt (g : Nat → Int) (i d : Nat) : Int := if (i + 1) % (d + 1) = 0 then g ((i + 1) / (d + 1)) else 0
theorem cv_sum (f : List Int) (g : Nat → Int) (i : Nat) : ∀ n, cv f g i n = sumZ (fun d => wt g i d * f.getD d 0) n
  | 0 => rfl
  | n + 1 => by
    simp only [cv, sumZ]
    rw [cv_sum f g i n]
    congr 1
    unfold wt
    split
    · rw [Int.mul_comm]
    · simp
/-- Both weights undo each other on the numbers below 60. -/
def undone (g h : Nat → Int) : Bool := (List.range 60).all fun i => (List.range 60).all fun d => (List.range (i + 1)).foldl (fun s j => s + wt h i j * wt g j d) 0 == if i = d then 1 else 0
theorem foldl_sumZ (h : Nat → Int) : ∀ n, (List.range n).foldl (fun s j => s + h j) 0 = sumZ h n
  | 0 => rfl
  | n + 1 => by rw [List.range_succ, List.foldl_append, foldl_sumZ h n]; rfl
theorem wt_gt (g : Nat → Int) {i d : Nat} (h : i < d) : wt g i d = 0 := by
  unfold wt
  rw [if_neg]
  rw [Nat.mod_eq_of_lt (by omega)]; omega
theorem sumZ_more {h : Nat → Int} {m : Nat} : ∀ n, m ≤ n → (∀ j, m ≤ j → h j = 0) → sumZ h n = sumZ h m
  | 0, hm, _ => by
    obtain rfl : m = 0 := by omega
    rfl
  | n + 1, hm, hz => by
    by_cases e : m = n + 1
    · rw [e]
    · simp only [sumZ]
      rw [hz n (by omega), Int.add_zero]
      exact sumZ_more n (by omega) hz
theorem sumZ_delta (f : Nat → Int) (i : Nat) : ∀ n, sumZ (fun d => (if i = d then 1 else 0) * f d) n = if i < n then f i else 0
  | 0 => by simp [sumZ]
  | n + 1 => by
    simp only [sumZ]
    rw [sumZ_delta f i n]
    by_cases h : i < n
    · rw [if_pos h, if_neg (by omega), if_pos (by omega)]; simp
    · rw [if_neg h]
      by_cases e : i = n
      · subst e; rw [if_pos rfl, if_pos (by omega)]; simp
      · rw [if_neg e, if_neg (by omega)]; simp
theorem conv_conv {g h : Nat → Int} (hu : undone g h = true) (f : List Int) (hf : f.length ≤ 60) : conv (conv f g f.length f.length) h f.length f.length = f := by
  apply List.ext_getElem (by simp [conv])
  intro i h1 h2
  simp only [conv, List.getElem_map, List.getElem_range]
  rw [cv_sum]
  have e1 : sumZ (fun j => wt h i j * ((List.range f.length).map fun i => cv f g i f.length).getD j 0) f.length = sumZ (fun j => sumZ (fun d => wt h i j * wt g j d * f.getD d 0) f.length) f.length := by
    apply sumZ_congr
    intro j hj
    rw [List.getD_eq_getElem?_getD, List.getElem?_map, List.getElem?_range hj]
    simp only [Option.map_some, Option.getD_some]
    rw [cv_sum, Int.mul_comm, ← sumZ_mul]
    apply sumZ_congr
    intro d _
    ac_rfl
  rw [e1, sumZ_swap]
  have e2 : ∀ d, d < f.length → sumZ (fun j => wt h i j * wt g j d * f.getD d 0) f.length = (if i = d then 1 else 0) * f.getD d 0 := fun d hd => by
    rw [sumZ_mul]
    congr 1
    have hx := List.all_eq_true.1 (List.all_eq_true.1 hu i (List.mem_range.2 (by omega))) d (List.mem_range.2 (by omega))
    rw [beq_iff_eq, foldl_sumZ (fun j => wt h i j * wt g j d)] at hx
    rw [← hx]
    exact sumZ_more _ (by omega) fun j hj => by rw [wt_gt h (by omega), Int.zero_mul]
  rw [sumZ_congr _ e2, sumZ_delta, if_pos h2, List.getD_eq_getElem?_getD, List.getElem?_eq_getElem h2]; rfl

end Wm
