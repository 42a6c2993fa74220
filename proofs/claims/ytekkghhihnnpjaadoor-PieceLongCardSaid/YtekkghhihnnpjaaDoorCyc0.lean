/-
  Division of bits, plain; strings of bits.
-/
import Derived.Test.YtekkghhihnnpjaaDoorPiece3
set_option linter.unusedVariables false
set_option linter.unusedSimpArgs false
namespace Wm
def stp (G : Nat → Bool) (i : Nat) (f : Nat → Bool) : Nat → Bool := fun j => if j < i then f j else (f j).xor (f i && G (j - i))
def rn (G : Nat → Bool) : Nat → (Nat → Bool) → (Nat → Bool)
  | 0, f => f
  | i + 1, f => stp G i (rn G i f)
def fx (f h : Nat → Bool) : Nat → Bool := fun j => (f j).xor (h j)
def par (f : Nat → Bool) : Nat → Bool
  | 0 => false
  | n + 1 => (par f n).xor (f n)
theorem stp_fx (G : Nat → Bool) (i : Nat) (f h : Nat → Bool) : stp G i (fx f h) = fx (stp G i f) (stp G i h) := by
  funext j
  unfold stp fx
  by_cases c : j < i
  · simp only [if_pos c]
  · simp only [if_neg c]
    cases f j <;> cases h j <;> cases f i <;> cases h i <;> cases G (j - i) <;> rfl
theorem rn_fx (G : Nat → Bool) (f h : Nat → Bool) : ∀ N, rn G N (fx f h) = fx (rn G N f) (rn G N h)
  | 0 => rfl
  | N + 1 => by simp only [rn, rn_fx G f h N, stp_fx]
theorem rn_low {G : Nat → Bool} (h0 : G 0 = true) (f : Nat → Bool) : ∀ N j, j < N → rn G N f j = false
  | N + 1, j, hj => by
    simp only [rn, stp]
    by_cases c : j < N
    · rw [if_pos c]; exact rn_low h0 f N j c
    · obtain rfl : j = N := by omega
      rw [if_neg c, Nat.sub_self, h0]
      cases rn G j f j <;> rfl
theorem rn_none (G : Nat → Bool) {f : Nat → Bool} : ∀ N, (∀ j, j < N → f j = false) → rn G N f = f
  | 0, _ => rfl
  | N + 1, h => by
    simp only [rn, rn_none G N fun j hj => h j (by omega)]
    funext j
    unfold stp
    split
    · rfl
    · rw [h N (by omega)]; simp
theorem rn_far {G : Nat → Bool} {m : Nat} (hG : ∀ k, m < k → G k = false) (f : Nat → Bool) : ∀ N j, N + m ≤ j → rn G N f j = f j
  | 0, _, _ => rfl
  | N + 1, j, hj => by
    simp only [rn, stp]
    rw [if_neg (by omega), hG (j - N) (by omega), rn_far hG f N j (by omega)]
    simp
theorem rn_congr (G : Nat → Bool) {f h : Nat → Bool} {n : Nat} (e : ∀ j, j < n → f j = h j) : ∀ N j, j < n → rn G N f j = rn G N h j
  | 0, j, hj => e j hj
  | N + 1, j, hj => by
    simp only [rn, stp]
    split
    · exact rn_congr G e N j hj
    · rw [rn_congr G e N j hj, rn_congr G e N N (by omega)]
theorem par_fx (f h : Nat → Bool) : ∀ n, par (fx f h) n = (par f n).xor (par h n)
  | 0 => rfl
  | n + 1 => by
    simp only [par, par_fx f h n, fx]
    cases par f n <;> cases par h n <;> cases f n <;> cases h n <;> rfl
theorem par_none {f : Nat → Bool} : ∀ n, (∀ j, j < n → f j = false) → par f n = false
  | 0, _ => rfl
  | n + 1, h => by simp only [par, par_none n fun j hj => h j (by omega), h n (by omega)]; rfl
theorem par_congr {f h : Nat → Bool} : ∀ n, (∀ j, j < n → f j = h j) → par f n = par h n
  | 0, _ => rfl
  | n + 1, e => by simp only [par, par_congr n fun j hj => e j (by omega), e n (by omega)]
theorem par_more {f : Nat → Bool} {a : Nat} (h : ∀ k, a ≤ k → f k = false) : ∀ d, par f (a + d) = par f a
  | 0 => rfl
  | d + 1 => by
    show (par f (a + d)).xor (f (a + d)) = _
    rw [par_more h d, h _ (by omega)]; simp
theorem par_shift (G : Nat → Bool) (i : Nat) : ∀ d, par (fun j => if j < i then false else G (j - i)) (i + d) = par G d
  | 0 => par_none _ fun j hj => if_pos (by omega)
  | d + 1 => by
    show (par _ (i + d)).xor (if i + d < i then false else G (i + d - i)) = (par G d).xor (G d)
    rw [par_shift G i d, if_neg (by omega), Nat.add_sub_cancel_left]
theorem par_stp {G : Nat → Bool} {m : Nat} (hG : ∀ k, m < k → G k = false) (he : par G (m + 1) = false) (f : Nat → Bool) {i n : Nat} (hi : i + m < n) : par (stp G i f) n = par f n := by
  have e : stp G i f = fx f (fun j => if j < i then false else (f i && G (j - i))) := by
    funext j; simp only [stp, fx]; by_cases c : j < i
    · rw [if_pos c, if_pos c]; simp
    · rw [if_neg c, if_neg c]
  rw [e, par_fx]
  cases f i with
  | false =>
    rw [par_none (f := fun j => if j < i then false else (false && G (j - i))) n fun j hj => by simp]; simp
  | true =>
    simp only [Bool.true_and]
    have h1 := par_shift G i (n - i)
    rw [show i + (n - i) = n by omega] at h1
    rw [h1, show n - i = m + 1 + (n - i - (m + 1)) by omega, par_more (fun k hk => hG k (by omega)), he]
    simp
theorem par_rn {G : Nat → Bool} {m : Nat} (hG : ∀ k, m < k → G k = false) (he : par G (m + 1) = false) (f : Nat → Bool) {n : Nat} : ∀ N, N + m ≤ n → par (rn G N f) n = par f n
  | 0, _ => rfl
  | N + 1, h => by
    simp only [rn]
    rw [par_stp hG he _ (by omega), par_rn hG he f N (by omega)]
theorem rn_back {G : Nat → Bool} {m a L : Nat} (hGm : G m = true) (hG : ∀ k, m < k → G k = false) {f : Nat → Bool} (hL : L ≤ m) (hf : ∀ j, f j = true → a ≤ j ∧ j < a + L) {N : Nat} (haN : a ≤ N) (hz : ∀ j, rn G N f j = false) :
    ∀ d, a + d ≤ N → ∀ j, rn G (N - d) f j = false
  | 0, _ => hz
  | d + 1, hd => by
    have ih := rn_back hGm hG hL hf haN hz d (by omega)
    obtain ⟨i, hi⟩ : ∃ i, i = N - (d + 1) := ⟨_, rfl⟩
    rw [← hi]
    rw [show N - d = i + 1 by omega] at ih
    have h1 := ih (i + m)
    simp only [rn, stp] at h1
    rw [if_neg (by omega), show i + m - i = m by omega, hGm, rn_far hG f i (i + m) (Nat.le_refl _)] at h1
    have h2 : f (i + m) = false := by
      cases c : f (i + m) with
      | false => rfl
      | true => have := hf _ c; omega
    rw [h2] at h1
    have h3 : rn G i f i = false := by simpa using h1
    intro j
    have h4 := ih j
    simp only [rn, stp] at h4
    split at h4
    · exact h4
    · rw [h3] at h4; simpa using h4
/-- A burst of no more bits than are added is told. -/
theorem burst {G : Nat → Bool} {m a L N : Nat} (h0 : G 0 = true) (hGm : G m = true) (hG : ∀ k, m < k → G k = false) {f : Nat → Bool} (hL : L ≤ m) (haL : a + L ≤ N + m) (hf : ∀ j, f j = true → a ≤ j ∧ j < a + L) {j0 : Nat} (h1 : f j0 = true) :
    ∃ j, j < m ∧ rn G N f (N + j) = true := by
  apply Classical.byContradiction
  intro hno
  have hz : ∀ j, rn G N f j = false := by
    intro j
    by_cases c1 : j < N
    · exact rn_low h0 f N j c1
    · by_cases c2 : j < N + m
      · cases c : rn G N f j with
        | false => rfl
        | true => exact absurd ⟨j - N, by omega, by rw [show N + (j - N) = j by omega]; exact c⟩ hno
      · rw [rn_far hG f N j (by omega)]
        cases c : f j with
        | false => rfl
        | true => have := hf _ c; omega
  by_cases haN : a ≤ N
  · have h2 := rn_back hGm hG hL hf haN hz (N - a) (by omega) j0
    rw [show N - (N - a) = a by omega, rn_none G a fun j hj => by
      cases c : f j with
      | false => rfl
      | true => have := hf _ c; omega] at h2
    rw [h1] at h2; cases h2
  · have h2 := hz j0
    rw [rn_none G N fun j hj => by
      cases c : f j with
      | false => rfl
      | true => have := hf _ c; omega] at h2
    rw [h1] at h2; cases h2
/-- What is put: the text, then what remains. -/
def putF (G : Nat → Bool) (N : Nat) (f : Nat → Bool) : Nat → Bool := fun j => if j < N then f j else rn G N (fun k => if k < N then f k else false) j
theorem putF_eq {G : Nat → Bool} (h0 : G 0 = true) (N : Nat) (f : Nat → Bool) : putF G N f = fx (fun k => if k < N then f k else false) (rn G N (fun k => if k < N then f k else false)) := by
  funext j
  simp only [putF, fx]
  by_cases c : j < N
  · rw [if_pos c, if_pos c, rn_low h0 _ N j c]; simp
  · rw [if_neg c, if_neg c]; simp
theorem rn_put {G : Nat → Bool} (h0 : G 0 = true) (N : Nat) (f : Nat → Bool) (j : Nat) : rn G N (putF G N f) j = false := by
  rw [putF_eq h0, rn_fx, rn_none G N (f := rn G N _) (fun j hj => rn_low h0 _ N j hj)]
  unfold fx
  simp
theorem putF_fx (G : Nat → Bool) (N : Nat) (f h : Nat → Bool) : putF G N (fx f h) = fx (putF G N f) (putF G N h) := by
  funext j
  have : (fun k => if k < N then fx f h k else false) = fx (fun k => if k < N then f k else false) (fun k => if k < N then h k else false) := by
    funext k; simp only [fx]; by_cases c : k < N
    · simp only [if_pos c]
    · simp only [if_neg c]; rfl
  show (if j < N then fx f h j else rn G N (fun k => if k < N then fx f h k else false) j) = (if j < N then f j else rn G N (fun k => if k < N then f k else false) j).xor (if j < N then h j else rn G N (fun k => if k < N then h k else false) j)
  rw [this, rn_fx]
  by_cases c : j < N
  · simp only [if_pos c]; rfl
  · simp only [if_neg c]; rfl
end Wm
namespace Go.Proofs.YtekkghhihnnpjaaDoor
open Go.RowKit Go.BigFrame

theorem strN_app (l m : List Nat) : strN l ++ strN m = strN (l ++ m) := by
  unfold strN
  apply ByteArray.ext
  simp
def bn (b : Bool) : Nat := if b then 49 else 48
theorem bn_lt (b : Bool) : bn b < 256 := by cases b <;> decide
def bsL (f : Nat → Bool) (n : Nat) : List Nat := (List.range n).map fun j => bn (f j)
def bsF (f : Nat → Bool) (n : Nat) : ByteArray := strN (bsL f n)
theorem bsL_length (f : Nat → Bool) (n : Nat) : (bsL f n).length = n := by simp [bsL]
theorem bsL_lt (f : Nat → Bool) (n : Nat) : ∀ x ∈ bsL f n, x < 256 := by
  intro x hx
  obtain ⟨j, -, rfl⟩ := List.mem_map.1 hx
  exact bn_lt _
theorem bsL_get (f : Nat → Bool) {n k : Nat} (hk : k < n) : (bsL f n).getD k 0 = bn (f k) := by
  unfold bsL
  simp [List.getD_eq_getElem?_getD, List.getElem?_range hk]
theorem bsF_size (f : Nat → Bool) (n : Nat) : (bsF f n).size = n := by unfold bsF; rw [strN_size, bsL_length]
theorem bsF_by (f : Nat → Bool) {n k : Nat} (hk : k < n) : sby (bsF f n) k = bn (f k) := by
  unfold bsF
  rw [strN_byt _ (bsL_lt f n) (by rw [bsL_length]; exact hk), bsL_get f hk]
theorem bsL_congr {f h : Nat → Bool} {n : Nat} (e : ∀ j, j < n → f j = h j) : bsL f n = bsL h n := List.map_congr_left fun j hj => by rw [e j (List.mem_range.1 hj)]
theorem bsF_congr {f h : Nat → Bool} {n : Nat} (e : ∀ j, j < n → f j = h j) : bsF f n = bsF h n := congrArg strN (bsL_congr e)
theorem bsL_append (f h : Nat → Bool) (n k : Nat) : bsL f n ++ bsL h k = bsL (fun j => if j < n then f j else h (j - n)) (n + k) := by
  unfold bsL
  rw [List.range_add, List.map_append, List.map_map]
  congr 1
  · exact List.map_congr_left fun j hj => by
      show bn (f j) = bn (if j < n then f j else h (j - n))
      rw [if_pos (List.mem_range.1 hj)]
  · exact List.map_congr_left fun j hj => by
      show bn (h j) = bn (if n + j < n then f (n + j) else h (n + j - n))
      rw [if_neg (by omega), Nat.add_sub_cancel_left]
theorem bsF_append (f h : Nat → Bool) (n k : Nat) : bsF f n ++ bsF h k = bsF (fun j => if j < n then f j else h (j - n)) (n + k) := by
  unfold bsF
  rw [strN_app, bsL_append]
theorem bsL_bytes (f : Nat → Bool) (n : Nat) : ((List.range (bsF f n).size).map fun k => sby (bsF f n) k) = bsL f n := by
  rw [bsF_size]
  exact List.map_congr_left fun j hj => bsF_by f (List.mem_range.1 hj)
theorem bsF_data (f : Nat → Bool) (n : Nat) : (bsF f n).data.toList = (List.range n).map fun j => if f j then (49 : UInt8) else 48 := by
  simp only [bsF, strN, bsL, List.map_map]
  exact List.map_congr_left fun j _ => by
    show UInt8.ofNat (bn (f j)) = _
    cases f j <;> rfl
theorem bsL_take (f : Nat → Bool) (n k : Nat) : (bsL f (k + n)).drop k = bsL (fun j => f (k + j)) n := by
  unfold bsL
  rw [List.range_add, List.map_append, List.drop_left' (by simp), List.map_map]
  rfl
end Go.Proofs.YtekkghhihnnpjaaDoor
