/-
  GRIESMER's bound, and HAMMING's spheres. Plain. No program in sight.
-/
import Derived.Test.YtkebldjepdhioaaLin6
set_option linter.unusedVariables false
set_option linter.unusedSimpArgs false
namespace Wm
theorem nodup_snoc {B : List Nat} {g : Nat} : (ws (B ++ [g])).Nodup ↔ (ws B).Nodup ∧ g ∉ ws B := by
  rw [ws_snoc, List.nodup_append]
  constructor
  · rintro ⟨h1, -, h3⟩
    exact ⟨h1, fun hg => h3 g hg g (List.mem_map.2 ⟨0, ws_zero B, Nat.zero_xor g⟩) rfl⟩
  · rintro ⟨h1, h2⟩
    refine ⟨h1, ?_, fun x hx y hy e => ?_⟩
    · rw [List.nodup_iff_pairwise_ne] at *
      rw [List.pairwise_map]
      exact h1.imp fun {a b} hne he => hne (by have := congrArg (· ^^^ g) he; simpa [x_back] using this)
    · obtain ⟨z, hz, rfl⟩ := List.mem_map.1 hy
      apply h2
      have := ws_xor B z x hz hx
      rwa [e, ← Nat.xor_assoc, Nat.xor_self, Nat.zero_xor] at this
/-- One generator less, without c. -/
theorem without {c : Nat} (h0 : c ≠ 0) : ∀ B : List Nat, (ws B).Nodup → c ∈ ws B → ∃ B' : List Nat, B'.length + 1 = B.length ∧ (∀ x ∈ ws B', x ∈ ws B) ∧ (ws B').Nodup ∧ c ∉ ws B' := snoc_ind (fun _ h => by
  rw [ws_nil, List.mem_singleton] at h; exact absurd h h0) fun B g ih hn hc => by
  obtain ⟨hB, hg⟩ := nodup_snoc.1 hn
  have sub : ∀ x ∈ ws B, x ∈ ws (B ++ [g]) := fun x hx => mem_snoc.2 (.inl hx)
  rcases mem_snoc.1 hc with h | h
  · obtain ⟨B1, l1, s1, n1, c1⟩ := ih hB h
    refine ⟨B1 ++ [g], by simp; omega, fun x hx => ?_, nodup_snoc.2 ⟨n1, fun h => hg (s1 g h)⟩, fun h2 => ?_⟩
    · rcases mem_snoc.1 hx with h2 | h2
      · exact sub x (s1 x h2)
      · exact mem_snoc.2 (.inr (s1 _ h2))
    · rcases mem_snoc.1 h2 with h3 | h3
      · exact c1 h3
      · have := ws_xor B _ _ h (s1 _ h3)
        rw [← Nat.xor_assoc, Nat.xor_self, Nat.zero_xor] at this
        exact hg this
  · refine ⟨B, by simp, sub, hB, fun h2 => hg ?_⟩
    have := ws_xor B _ _ h2 h
    rwa [← Nat.xor_assoc, Nat.xor_self, Nat.zero_xor] at this
/-- Ones at some places. -/
def wm (M : Nat → Bool) (x : Nat) : Nat → Nat
  | 0 => 0
  | n + 1 => wm M x n + (M n && x.testBit n).toNat
def sz (M : Nat → Bool) : Nat → Nat
  | 0 => 0
  | n + 1 => sz M n + (M n).toNat
theorem wm_all (x : Nat) : ∀ n, wm (fun _ => true) x n = ones x n
  | 0 => rfl
  | n + 1 => by simp only [wm, ones, ones_bit, wm_all x n, Bool.true_and]
theorem sz_all : ∀ n, sz (fun _ => true) n = n
  | 0 => rfl
  | n + 1 => by simp [sz, sz_all n]
theorem wm_split (M : Nat → Bool) (x c : Nat) : ∀ n, wm M (x ^^^ c) n + wm M x n = wm M c n + 2 * wm (fun i => M i && !c.testBit i) x n
  | 0 => rfl
  | n + 1 => by
    have ih := wm_split M x c n
    simp only [wm, Nat.testBit_xor]
    cases M n <;> cases x.testBit n <;> cases c.testBit n <;> simp <;> omega
theorem sz_split (M : Nat → Bool) (c : Nat) : ∀ n, sz M n = sz (fun i => M i && !c.testBit i) n + wm M c n
  | 0 => rfl
  | n + 1 => by
    have ih := sz_split M c n
    simp only [wm, sz]
    cases M n <;> cases c.testBit n <;> simp <;> omega
theorem min_ex {P : Nat → Prop} : ∀ m, P m → ∃ m, P m ∧ ∀ k, P k → m ≤ k := fun m => by
  induction m using Nat.strongRecOn with
  | _ m ih =>
    intro h
    by_cases c : ∃ k, k < m ∧ P k
    · obtain ⟨k, hk, hp⟩ := c
      exact ih k hk hp
    · exact ⟨m, h, fun k hk => by
        rcases Nat.lt_or_ge k m with h' | h'
        · exact absurd ⟨k, h', hk⟩ c
        · exact h'⟩
def need : Nat → Nat → Nat
  | 0, _ => 0
  | k + 1, d => d + need k ((d + 1) / 2)
theorem need_mono : ∀ k {a b : Nat}, a ≤ b → need k a ≤ need k b
  | 0, _, _, _ => Nat.le_refl _
  | k + 1, a, b, h => by
    have := need_mono k (show (a + 1) / 2 ≤ (b + 1) / 2 by omega)
    simp only [need]; omega
theorem griesmer (n : Nat) : ∀ (k : Nat) (B : List Nat) (M : Nat → Bool) (d : Nat), B.length = k → (ws B).Nodup → (∀ x ∈ ws B, x ≠ 0 → d ≤ wm M x n) → need k d ≤ sz M n
  | 0, _, _, _, _, _, _ => Nat.zero_le _
  | k + 1, B, M, d, hk, hn, hd => by
    have hx : ∃ x ∈ ws B, x ≠ 0 := by
      rcases List.eq_nil_or_concat B with e | ⟨B0, g, e⟩
      · rw [e] at hk; cases hk
      · rw [List.concat_eq_append] at e
        subst e
        exact ⟨g, ws_gen _ g (by simp), fun e => (nodup_snoc.1 hn).2 (e ▸ ws_zero B0)⟩
    obtain ⟨x, hx, hx0⟩ := hx
    obtain ⟨d0, ⟨c, hc, hc0, hcd⟩, hmin⟩ := min_ex (P := fun m => ∃ c, c ∈ ws B ∧ c ≠ 0 ∧ wm M c n = m) _ ⟨x, hx, hx0, rfl⟩
    obtain ⟨B', l1, s1, n1, c1⟩ := without hc0 B hn hc
    have hdd := hd c hc hc0
    have ih := griesmer n k B' (fun i => M i && !c.testBit i) ((d + 1) / 2) (by omega) n1 fun y hy hy0 => by
      have h1 := hmin _ ⟨y, s1 y hy, hy0, rfl⟩
      have h2 := hmin _ ⟨y ^^^ c, ws_xor B _ _ (s1 y hy) hc, fun e => c1 (x_eq e ▸ hy), rfl⟩
      have h3 := wm_split M y c n
      omega
    have := sz_split M c n
    simp only [need]
    omega
theorem need_single : ∀ k d, 1 ≤ d → d + k ≤ need (k + 1) d
  | 0, d, _ => by simp [need]
  | k + 1, d, h => by
    have := need_single k ((d + 1) / 2) (by omega)
    have e : need (k + 1 + 1) d = d + need (k + 1) ((d + 1) / 2) := rfl
    rw [e]; omega
theorem need_plotkin : ∀ k d, d * (2 ^ (k + 1) - 1) ≤ need (k + 1) d * 2 ^ k
  | 0, d => by simp [need]
  | k + 1, d => by
    have ih := need_plotkin k ((d + 1) / 2)
    have e : need (k + 1 + 1) d = d + need (k + 1) ((d + 1) / 2) := rfl
    rw [e]
    generalize need (k + 1) ((d + 1) / 2) = N at *
    have hp : 1 ≤ 2 ^ (k + 1) := Nat.one_le_two_pow
    have e2 : 2 ^ (k + 1 + 1) = 2 * 2 ^ (k + 1) := by rw [Nat.pow_succ, Nat.mul_comm]
    have e3 : 2 ^ (k + 1) = 2 * 2 ^ k := by rw [Nat.pow_succ, Nat.mul_comm]
    rw [e2]
    generalize hT : 2 ^ (k + 1) = T at *
    have h1 : (d + 1) / 2 * 2 ≥ d := by omega
    have h2 : d * (T - 1) ≤ (d + 1) / 2 * 2 * (T - 1) := Nat.mul_le_mul_right _ h1
    have h3 : (d + 1) / 2 * 2 * (T - 1) = 2 * ((d + 1) / 2 * (T - 1)) := by rw [Nat.mul_assoc, Nat.mul_left_comm]
    have h4 : N * T = 2 * (N * 2 ^ k) := by rw [e3, Nat.mul_left_comm]
    have h5 : d * (2 * T - 1) = d * T + d * (T - 1) := by
      rw [← Nat.mul_add]; congr 1; omega
    rw [h5, Nat.add_mul]
    omega
theorem plain_bounds {n k d : Nat} (h1 : 1 ≤ d) (h : need (k + 1) d ≤ n) : d + k ≤ n ∧ d * (2 ^ (k + 1) - 1) ≤ n * 2 ^ k :=
  ⟨Nat.le_trans (need_single k d h1) h, Nat.le_trans (need_plotkin k d) (Nat.mul_le_mul_right _ h)⟩
/-! ### Spheres -/
theorem ones_tri (x y : Nat) : ∀ n, ones (x ^^^ y) n ≤ ones x n + ones y n
  | 0 => Nat.le_refl _
  | n + 1 => by
    have ih := ones_tri x y n
    simp only [ones, ones_bit, Nat.testBit_xor]
    cases x.testBit n <;> cases y.testBit n <;> simp <;> omega
theorem nodup_flat {f : Nat → List Nat} : ∀ {L : List Nat}, L.Nodup → (∀ x ∈ L, (f x).Nodup) → (∀ x ∈ L, ∀ y ∈ L, ∀ z, z ∈ f x → z ∈ f y → x = y) → (L.flatMap f).Nodup
  | [], _, _, _ => by simp
  | a :: L, hn, hf, hd => by
    rw [List.flatMap_cons, List.nodup_append]
    obtain ⟨ha, hL⟩ := List.nodup_cons.1 hn
    refine ⟨hf a (by simp), nodup_flat hL (fun x hx => hf x (by simp [hx])) (fun x hx y hy => hd x (by simp [hx]) y (by simp [hy])), fun z hz z' hz' e => ?_⟩
    subst e
    obtain ⟨y, hy, hzy⟩ := List.mem_flatMap.1 hz'
    have := hd a (by simp) y (by simp [hy]) z hz hzy
    exact ha (this ▸ hy)
theorem flat_len {f : Nat → List Nat} {m : Nat} : ∀ {L : List Nat}, (∀ x ∈ L, (f x).length = m) → (L.flatMap f).length = L.length * m
  | [], _ => by simp
  | a :: L, h => by
    rw [List.flatMap_cons, List.length_append, h a (by simp), flat_len fun x hx => h x (by simp [hx]), List.length_cons, Nat.add_mul]; omega
def ball (n t : Nat) : List Nat := (List.range (2 ^ n)).filter fun y => decide (ones y n ≤ t)
theorem ball_mem {n t y : Nat} : y ∈ ball n t ↔ y < 2 ^ n ∧ ones y n ≤ t := by unfold ball; rw [List.mem_filter, List.mem_range, decide_eq_true_eq]
theorem spheres {n t d : Nat} {L : List Nat} (hn : L.Nodup) (hl : ∀ x ∈ L, x < 2 ^ n) (hd : ∀ x ∈ L, ∀ y ∈ L, x ≠ y → d ≤ ones (x ^^^ y) n) (ht : 2 * t < d) : L.length * (ball n t).length ≤ 2 ^ n := by
  have hb : (ball n t).Nodup := List.Pairwise.filter _ List.nodup_range
  have h := List.Nodup.length_le_of_subset (l₁ := L.flatMap fun x => (ball n t).map (x ^^^ ·)) (l₂ := List.range (2 ^ n)) (nodup_flat hn (fun x _ => ?_) (fun x hx y hy z hz hz' => ?_)) (fun z hz => ?_)
  · rw [flat_len (m := (ball n t).length) fun x _ => by simp, List.length_range] at h
    exact h
  · rw [List.nodup_iff_pairwise_ne] at *
    rw [List.pairwise_map]
    exact hb.imp fun {a b} hne he => hne (by
      have := congrArg (x ^^^ ·) he
      simpa [← Nat.xor_assoc] using this)
  · obtain ⟨e, he, rfl⟩ := List.mem_map.1 hz
    obtain ⟨e', he', h2⟩ := List.mem_map.1 hz'
    apply Classical.byContradiction
    intro hne
    have h1 := hd x hx y hy hne
    have h3 : x ^^^ y = e ^^^ e' := by
      have : y ^^^ e' ^^^ e' = x ^^^ e ^^^ e' := congrArg (· ^^^ e') h2
      rw [x_back] at this
      rw [this, Nat.xor_assoc x e e', ← Nat.xor_assoc, Nat.xor_self, Nat.zero_xor]
    rw [h3] at h1
    have h4 := ones_tri e e' n
    have h5 := (ball_mem.1 he).2
    have h6 := (ball_mem.1 he').2
    omega
  · obtain ⟨x, hx, hz⟩ := List.mem_flatMap.1 hz
    obtain ⟨e, he, rfl⟩ := List.mem_map.1 hz
    exact List.mem_range.2 (Nat.xor_lt_two_pow (hl x hx) (ball_mem.1 he).1)
theorem kr_C : (List.range 13).all (fun n => (List.range 13).all fun j => decide (kr n 0 j = (C n j : Int))) = true := by decide +kernel
theorem count_weight {n j : Nat} (hn : n ≤ 12) (hj : j ≤ 12) : (((List.range (2 ^ n)).filter fun y => decide (ones y n = j)).length : Int) = (C n j : Int) := by
  have h := sum_weight 0 n hn j (by omega)
  rw [ones_zero] at h
  have h2 := List.all_eq_true.1 (List.all_eq_true.1 kr_C n (List.mem_range.2 (by omega))) j (List.mem_range.2 (by omega))
  rw [decide_eq_true_eq] at h2
  rw [← h2, ← h]
  have : ∀ y ∈ List.range (2 ^ n), atW n j y (chi n 0 y) = if decide (ones y n = j) = true then (1 : Int) else 0 := fun y _ => by
    unfold atW; rw [chi_zero]; simp
  rw [sI_congr this, sI_filter (fun y => decide (ones y n = j)), sI_const, Int.mul_one]
/-- So many lie in a sphere. -/
def vol (n : Nat) : Nat → Nat
  | 0 => 0
  | t + 1 => vol n t + C n t
theorem ball_len {n : Nat} (hn : n ≤ 12) : ∀ t, t ≤ 12 → (ball n t).length = vol n (t + 1)
  | 0, _ => by
    have h := count_weight (n := n) (j := 0) hn (by omega)
    have e : ball n 0 = (List.range (2 ^ n)).filter fun y => decide (ones y n = 0) := List.filter_congr fun y _ => by simp
    rw [e]
    simp only [vol]
    omega
  | t + 1, ht => by
    have h := count_weight (n := n) (j := t + 1) hn ht
    have ih := ball_len hn t (by omega)
    have e : (ball n (t + 1)).length = (ball n t).length + ((List.range (2 ^ n)).filter fun y => decide (ones y n = t + 1)).length := by
      unfold ball
      generalize List.range (2 ^ n) = L
      induction L with
      | nil => rfl
      | cons a L ihL =>
        simp only [List.filter_cons, decide_eq_true_eq]
        rcases Nat.lt_trichotomy (ones a n) (t + 1) with c | c | c
        · rw [if_pos (by omega), if_pos (by omega), if_neg (by omega)]; simp; omega
        · rw [if_pos (by omega), if_neg (by omega), if_pos (by omega)]; simp; omega
        · rw [if_neg (by omega), if_neg (by omega), if_neg (by omega)]; exact ihL
    rw [e, ih]
    simp only [vol]
    omega
/-! ### Weights -/
theorem ones_pos {n x : Nat} (h0 : x ≠ 0) (hx : x < 2 ^ n) : 1 ≤ ones x n := by
  have key : ∀ n, (∃ k, k < n ∧ x.testBit k = true) → 1 ≤ ones x n := fun n => by
    induction n with
    | zero => rintro ⟨k, hk, -⟩; omega
    | succ n ih =>
      rintro ⟨k, hk, hb⟩
      simp only [ones, ones_bit]
      by_cases e : k = n
      · subst e; rw [hb]; simp
      · have := ih ⟨k, by omega, hb⟩; omega
  exact key n ⟨x.log2, (Nat.log2_lt h0).2 hx, lead_bit h0⟩
theorem ones_16 {n x : Nat} (hn : n ≤ 16) (hx : x < 2 ^ n) : ones x 16 = ones x n := by
  have := ones_above hx (16 - n)
  rwa [show n + (16 - n) = 16 by omega] at this
/-- Sums by weight. -/
theorem sum_by {n : Nat} (f : Nat → Int) : ∀ L : List Nat, (∀ x ∈ L, ones x 16 ≤ n) → sI (List.range (n + 1)) (fun i => ((L.filter fun x => decide (ones x 16 = i)).length : Int) * f i) = sI L fun x => f (ones x 16)
  | [], _ => by
    have hz : ∀ i ∈ List.range (n + 1), (([].filter fun x => decide (ones x 16 = i)).length : Int) * f i = (fun _ => 0) i := fun i _ => by simp
    rw [sI_congr hz, sI_zero]; rfl
  | a :: L, h => by
    rw [sI_cons, ← sum_by f L fun x hx => h x (by simp [hx])]
    have e : ∀ i ∈ List.range (n + 1), (((a :: L).filter fun x => decide (ones x 16 = i)).length : Int) * f i = (if decide (i = ones a 16) = true then f i else 0) + ((L.filter fun x => decide (ones x 16 = i)).length : Int) * f i := fun i _ => by
      rw [List.filter_cons]
      by_cases c : ones a 16 = i
      · rw [if_pos (decide_eq_true c), if_pos (decide_eq_true c.symm), List.length_cons]; push_cast; rw [Int.add_mul]; omega
      · rw [if_neg (by simpa using c), if_neg (by simpa using fun e : i = ones a 16 => c e.symm)]; omega
    rw [sI_congr e, sI_add, sI_filter (fun i => decide (i = ones a 16))]
    congr 1
    have hm : ones a 16 < n + 1 := by have := h a (by simp); omega
    have hf : (List.range (n + 1)).filter (fun i => decide (i = ones a 16)) = [ones a 16] := by
      generalize ones a 16 = q at *
      have hp : ((List.range (n + 1)).filter (fun i => decide (i = q))).Perm [q] := by
        rw [List.perm_iff_count]
        intro x
        have hnd : ((List.range (n + 1)).filter (fun i => decide (i = q))).Nodup := List.Pairwise.filter _ List.nodup_range
        rw [hnd.count, List.count_singleton]
        by_cases e : x = q
        · subst e; rw [if_pos (by simp [hm])]; simp
        · rw [if_neg (by simp [e])]; simp; exact fun h => e h.symm
      exact List.perm_singleton.1 hp
    rw [hf, sI_cons, sI_nil]; omega
end Wm
