/-
  Plain facts on divisors, totients and MOEBIUS' function by factorizations. No program in sight.
-/
import Derived.Test.YtlfpmmgfgmeilaaFactor0
set_option linter.unusedVariables false
set_option linter.unusedSimpArgs false
namespace Wm

/-- The divisors that one prime power more makes. -/
def dstep (out : List Nat) (p k : Nat) : List Nat := out ++ out.flatMap fun d => (List.range k).map fun j => d * p ^ (j + 1)
def dv (l : List (Nat × Nat)) : List Nat := l.foldl (fun out x => dstep out x.1 x.2) [1]
theorem dv_snoc (l : List (Nat × Nat)) (p k : Nat) : dv (l ++ [(p, k)]) = dstep (dv l) p k := by simp [dv]
theorem mem_dstep {out : List Nat} {p k e : Nat} : e ∈ dstep out p k ↔ ∃ d ∈ out, ∃ j, j ≤ k ∧ e = d * p ^ j := by
  unfold dstep
  rw [List.mem_append, List.mem_flatMap]
  constructor
  · rintro (h | ⟨d, hd, h⟩)
    · exact ⟨e, h, 0, by omega, by simp⟩
    · obtain ⟨j, hj, rfl⟩ := List.mem_map.1 h
      exact ⟨d, hd, j + 1, by have := List.mem_range.1 hj; omega, rfl⟩
  · rintro ⟨d, hd, j, hj, rfl⟩
    cases j with
    | zero => left; simpa using hd
    | succ j => exact .inr ⟨d, hd, List.mem_map.2 ⟨j, List.mem_range.2 (by omega), rfl⟩⟩

/-- An induction that takes the greatest prime off. -/
theorem snoc_ind {α : Type} {P : List α → Prop} (h0 : P []) (h1 : ∀ l x, P l → P (l ++ [x])) (l : List α) : P l := by
  have : ∀ n, ∀ l : List α, l.length = n → P l := fun n => by
    induction n with
    | zero => intro l hl; rw [List.eq_nil_of_length_eq_zero hl]; exact h0
    | succ n ih =>
      intro l hl
      have hne : l ≠ [] := fun h => by rw [h] at hl; simp at hl
      rw [← List.dropLast_concat_getLast hne]
      exact h1 _ _ (ih _ (by simp [hl]))
  exact this _ l rfl

def Good (l : List (Nat × Nat)) : Prop := (l.Pairwise fun a b => a.1 < b.1) ∧ (∀ x ∈ l, Prime x.1 ∧ 1 ≤ x.2)
theorem IsFac.good {n : Nat} {l : List (Nat × Nat)} (h : IsFac n l) : Good l := ⟨h.1, h.2.1⟩
theorem good_fac {l : List (Nat × Nat)} (h : Good l) : IsFac (prodP l) l := ⟨h.1, h.2, rfl⟩
theorem Good.snoc {l : List (Nat × Nat)} {x : Nat × Nat} (h : Good (l ++ [x])) : Good l ∧ Prime x.1 ∧ 1 ≤ x.2 ∧ (∀ y ∈ l, y.1 < x.1) := by
  obtain ⟨h1, h2⟩ := h
  rw [List.pairwise_append] at h1
  exact ⟨⟨h1.1, fun y hy => h2 y (by simp [hy])⟩, (h2 x (by simp)).1, (h2 x (by simp)).2, fun y hy => h1.2.2 y hy x (by simp)⟩
theorem prodP_snoc (l : List (Nat × Nat)) (x : Nat × Nat) : prodP (l ++ [x]) = prodP l * x.1 ^ x.2 := by rw [prodP_append]; simp [prodP]
theorem Good.pos {l : List (Nat × Nat)} (h : Good l) : 0 < prodP l := Nat.lt_of_lt_of_le (Nat.two_pow_pos _) (prodP_pos h.2)
theorem not_dvd_prodP {l : List (Nat × Nat)} (h : Good l) {p : Nat} (hp : Prime p) (hno : ∀ y ∈ l, y.1 ≠ p) : ¬ p ∣ prodP l := fun hd => by
  induction l with
  | nil =>
    have := Nat.le_of_dvd (by simp [prodP]) hd
    simp [prodP] at this
    have := hp.1
    omega
  | cons y l ih =>
    obtain ⟨h1, h2⟩ := h
    rw [List.pairwise_cons] at h1
    rcases hp.dvd_mul hd with h | h
    · have hy := (h2 y (by simp)).1
      rcases hy.2 p (prime_dvd_pow hp h) with h | h
      · have := hp.1; omega
      · exact hno y (by simp) h.symm
    · exact ih ⟨h1.2, fun z hz => h2 z (by simp [hz])⟩ (fun z hz => hno z (by simp [hz])) h
theorem Good.last {l : List (Nat × Nat)} {x : Nat × Nat} (h : Good (l ++ [x])) : ¬ x.1 ∣ prodP l :=
  not_dvd_prodP h.snoc.1 h.snoc.2.1 fun y hy e => by have := h.snoc.2.2.2 y hy; omega

theorem split_prime {p : Nat} (hp : Prime p) : ∀ (n e : Nat), e ≤ n → 0 < e → ∃ j r, e = r * p ^ j ∧ ¬ p ∣ r
  | 0, e, h1, h2 => by omega
  | n + 1, e, h1, h2 => by
    by_cases h : p ∣ e
    · obtain ⟨c, rfl⟩ := h
      have hp1 := hp.1
      have hc : 0 < c := Nat.pos_of_mul_pos_left h2
      have hlt : c < p * c := by
        have : 1 * c < p * c := Nat.mul_lt_mul_of_pos_right hp1 hc
        omega
      obtain ⟨j, r, hj, hr⟩ := split_prime hp n c (by omega) hc
      exact ⟨j + 1, r, by rw [Nat.pow_succ, hj]; ac_rfl, hr⟩
    · exact ⟨0, e, by simp, h⟩

theorem coprime_pow {p r : Nat} (hp : Prime p) (h : ¬ p ∣ r) (k : Nat) : Nat.Coprime r (p ^ k) := (Nat.Coprime.pow_left k (hp.coprime h)).symm

theorem dvd_snoc {m p k e : Nat} (hp : Prime p) (hm : ¬ p ∣ m) (hm0 : 0 < m) : e ∣ m * p ^ k ↔ ∃ d, d ∣ m ∧ ∃ j, j ≤ k ∧ e = d * p ^ j := by
  constructor
  · intro h
    have he : 0 < e := Nat.pos_of_dvd_of_pos h (Nat.mul_pos hm0 (Nat.pow_pos hp.pos))
    obtain ⟨j, r, rfl, hr⟩ := split_prime hp e e (Nat.le_refl _) he
    have h1 : r ∣ m := (coprime_pow hp hr k).dvd_of_dvd_mul_right (Nat.dvd_trans (Nat.dvd_mul_right _ _) h)
    have h2 : p ^ j ∣ p ^ k := (coprime_pow hp hm j).symm.dvd_of_dvd_mul_left (Nat.dvd_trans (Nat.dvd_mul_left _ _) h)
    exact ⟨r, h1, j, (Nat.pow_dvd_pow_iff_le_right hp.1).1 h2, rfl⟩
  · rintro ⟨d, hd, j, hj, rfl⟩
    exact Nat.mul_dvd_mul hd (Nat.pow_dvd_pow p hj)

theorem mem_dv {l : List (Nat × Nat)} (h : Good l) : ∀ e, e ∈ dv l ↔ e ∣ prodP l := by
  induction l using snoc_ind with
  | h0 => intro e; simp [dv, prodP]
  | h1 l x ih =>
    intro e
    obtain ⟨p, k⟩ := x
    obtain ⟨hg, hp, -, -⟩ := h.snoc
    rw [dv_snoc, mem_dstep, prodP_snoc, dvd_snoc hp h.last hg.pos]
    constructor
    · rintro ⟨d, hd, j, hj, rfl⟩; exact ⟨d, (ih hg d).1 hd, j, hj, rfl⟩
    · rintro ⟨d, hd, j, hj, rfl⟩; exact ⟨d, (ih hg d).2 hd, j, hj, rfl⟩

theorem pow_mul_inj {p d d' i j : Nat} (hp : Prime p) (hd : ¬ p ∣ d) (hd' : ¬ p ∣ d') (h : d * p ^ i = d' * p ^ j) : d = d' ∧ i = j := by
  have h1 := val_of_form (k := i) hp.pos hd
  have h2 := val_of_form (k := j) hp.pos hd'
  rw [Nat.mul_comm, h, Nat.mul_comm] at h1
  obtain rfl := h1.unique h2
  exact ⟨Nat.eq_of_mul_eq_mul_right (Nat.pow_pos hp.pos) h, rfl⟩

theorem nodup_dv {l : List (Nat × Nat)} (h : Good l) : (dv l).Nodup := by
  induction l using snoc_ind with
  | h0 => simp [dv]
  | h1 l x ih =>
    obtain ⟨p, k⟩ := x
    obtain ⟨hg, hp, -, -⟩ := h.snoc
    have hnd : ∀ d ∈ dv l, ¬ p ∣ d := fun d hd hpd => h.last (Nat.dvd_trans hpd ((mem_dv hg d).1 hd))
    rw [dv_snoc]
    unfold dstep
    rw [List.nodup_append]
    refine ⟨ih hg, ?_, fun a ha b hb e => ?_⟩
    · unfold List.Nodup
      rw [List.pairwise_flatMap]
      refine ⟨fun d hd => ?_, ?_⟩
      · rw [List.pairwise_map]
        exact List.Pairwise.imp (fun {a b} hab e => by
          have := (pow_mul_inj hp (hnd d hd) (hnd d hd) e).2
          omega) List.nodup_range
      · refine List.Pairwise.imp_of_mem (fun {a b} ha hb hab x hx y hy e => ?_) (ih hg)
        obtain ⟨i, -, rfl⟩ := List.mem_map.1 hx
        obtain ⟨j, -, rfl⟩ := List.mem_map.1 hy
        exact hab (pow_mul_inj hp (hnd a ha) (hnd b hb) e).1
    · obtain ⟨d, hd, hm⟩ := List.mem_flatMap.1 hb
      obtain ⟨j, -, rfl⟩ := List.mem_map.1 hm
      have : a * p ^ 0 = d * p ^ (j + 1) := by simpa using e
      have := (pow_mul_inj hp (hnd a ha) (hnd d hd) this).2
      omega

/-- How many. -/
def cntD : List (Nat × Nat) → Nat
  | [] => 1
  | x :: l => (x.2 + 1) * cntD l
theorem cntD_append : ∀ l m, cntD (l ++ m) = cntD l * cntD m
  | [], m => by simp [cntD]
  | x :: l, m => by simp only [List.cons_append, cntD, cntD_append l m, Nat.mul_assoc]
theorem length_flat (out : List Nat) (p k : Nat) : (out.flatMap fun d => (List.range k).map fun j => d * p ^ (j + 1)).length = out.length * k := by
  induction out with
  | nil => simp
  | cons d out ih => simp only [List.flatMap_cons, List.length_append, List.length_map, List.length_range, ih, List.length_cons, Nat.add_mul]; omega
theorem length_dv (l : List (Nat × Nat)) : (dv l).length = cntD l := by
  induction l using snoc_ind with
  | h0 => rfl
  | h1 l x ih =>
    obtain ⟨p, k⟩ := x
    rw [dv_snoc]
    unfold dstep
    rw [List.length_append, length_flat, cntD_append, ih]
    simp only [cntD, Nat.mul_one, Nat.mul_add]
    omega
theorem cntD_le {l : List (Nat × Nat)} (h : Good l) : cntD l ≤ prodP l := by
  induction l using snoc_ind with
  | h0 => simp [cntD, prodP]
  | h1 l x ih =>
    obtain ⟨hg, hp, -, -⟩ := h.snoc
    rw [cntD_append, prodP_snoc]
    refine Nat.mul_le_mul (ih hg) ?_
    simp only [cntD, Nat.mul_one]
    have h2 : x.2 < 2 ^ x.2 := Nat.lt_two_pow_self
    have h3 : 2 ^ x.2 ≤ x.1 ^ x.2 := Nat.pow_le_pow_left hp.1 _
    omega

/-! ### Functions that are multiplicative -/
/-- The factorization of a divisor. -/
theorem fac_dv {l : List (Nat × Nat)} (h : Good l) : ∀ d ∈ dv l, ∃ m, IsFac d m ∧ ∀ y ∈ m, ∃ x ∈ l, x.1 = y.1 := by
  induction l using snoc_ind with
  | h0 =>
    intro d hd
    simp only [dv, List.foldl_nil, List.mem_singleton] at hd
    subst hd
    exact ⟨[], ⟨by simp, fun x h => by simp at h, rfl⟩, fun y h => by simp at h⟩
  | h1 l x ih =>
    intro e he
    obtain ⟨p, k⟩ := x
    obtain ⟨hg, hp, -, hlt⟩ := h.snoc
    rw [dv_snoc, mem_dstep] at he
    obtain ⟨d, hd, j, hj, rfl⟩ := he
    obtain ⟨m, hm, hsub⟩ := ih hg d hd
    cases j with
    | zero =>
      refine ⟨m, by simpa using hm, fun y hy => ?_⟩
      obtain ⟨x, hx, e⟩ := hsub y hy
      exact ⟨x, by simp [hx], e⟩
    | succ j =>
      refine ⟨m ++ [(p, j + 1)], ⟨?_, fun y hy => ?_, by rw [prodP_snoc, hm.2.2]⟩, fun y hy => ?_⟩
      · rw [List.pairwise_append]
        refine ⟨hm.1, by simp, fun a ha b hb => ?_⟩
        simp only [List.mem_singleton] at hb
        subst hb
        obtain ⟨x, hx, e⟩ := hsub a ha
        have := hlt x hx
        show a.1 < p
        have h' : x.1 < p := this
        omega
      · simp only [List.mem_append, List.mem_singleton] at hy
        rcases hy with hy | rfl
        · exact hm.2.1 y hy
        · exact ⟨hp, by omega⟩
      · simp only [List.mem_append, List.mem_singleton] at hy
        rcases hy with hy | rfl
        · obtain ⟨x, hx, e⟩ := hsub y hy
          exact ⟨x, by simp [hx], e⟩
        · exact ⟨(p, k), by simp, rfl⟩

/-- A function given prime power by prime power. -/
def mulF (g : Nat → Nat → Int) : List (Nat × Nat) → Int
  | [] => 1
  | x :: l => g x.1 x.2 * mulF g l
theorem mulF_append (g : Nat → Nat → Int) : ∀ l m, mulF g (l ++ m) = mulF g l * mulF g m
  | [], m => by simp [mulF]
  | x :: l, m => by simp only [List.cons_append, mulF, mulF_append g l m, Int.mul_assoc]
noncomputable def ofF (g : Nat → Nat → Int) (n : Nat) : Int := open Classical in if h : ∃ l, IsFac n l then mulF g h.choose else 0
theorem ofF_eq (g : Nat → Nat → Int) {n : Nat} {l : List (Nat × Nat)} (h : IsFac n l) : ofF g n = mulF g l := by
  unfold ofF
  have hex : ∃ l, IsFac n l := ⟨l, h⟩
  rw [dif_pos hex, fac_unique hex.choose_spec h]

def sumI : List Int → Int
  | [] => 0
  | x :: l => x + sumI l
theorem sumI_append : ∀ l m, sumI (l ++ m) = sumI l + sumI m
  | [], m => by simp [sumI]
  | x :: l, m => by simp only [List.cons_append, sumI, sumI_append l m]; omega
theorem sumI_perm {l m : List Int} (h : l.Perm m) : sumI l = sumI m := by
  induction h with
  | nil => rfl
  | cons x _ ih => simp only [sumI, ih]
  | swap x y l => simp only [sumI]; omega
  | trans _ _ h1 h2 => exact h1.trans h2
theorem sumI_mul (c : Int) : ∀ l, sumI (l.map fun x => c * x) = c * sumI l
  | [] => by simp [sumI]
  | x :: l => by simp only [List.map_cons, sumI, sumI_mul c l, Int.mul_add]
/-- Over one prime power: 1 and g of each power. -/
def geo (g : Nat → Nat → Int) (p k : Nat) : Int := 1 + sumI ((List.range k).map fun j => g p (j + 1))
theorem sum_dv (g : Nat → Nat → Int) {l : List (Nat × Nat)} (h : Good l) : sumI ((dv l).map (ofF g)) = mulF (geo g) l := by
  induction l using snoc_ind with
  | h0 =>
    have : ofF g 1 = 1 := (ofF_eq g (n := 1) (l := []) ⟨by simp, fun x h => by simp at h, rfl⟩).trans rfl
    simp [dv, sumI, mulF, this]
  | h1 l x ih =>
    obtain ⟨p, k⟩ := x
    obtain ⟨hg, hp, -, hlt⟩ := h.snoc
    rw [dv_snoc, mulF_append]
    unfold dstep
    rw [List.map_append, sumI_append, ih hg]
    have hone : ∀ d ∈ dv l, ∀ j, ofF g (d * p ^ (j + 1)) = ofF g d * g p (j + 1) := fun d hd j => by
      obtain ⟨m, hm, hsub⟩ := fac_dv hg d hd
      have hm2 : IsFac (d * p ^ (j + 1)) (m ++ [(p, j + 1)]) := by
        refine ⟨?_, fun y hy => ?_, by rw [prodP_snoc, hm.2.2]⟩
        · rw [List.pairwise_append]
          refine ⟨hm.1, by simp, fun a ha b hb => ?_⟩
          simp only [List.mem_singleton] at hb
          subst hb
          obtain ⟨x, hx, e⟩ := hsub a ha
          have h' : x.1 < p := hlt x hx
          show a.1 < p
          omega
        · simp only [List.mem_append, List.mem_singleton] at hy
          rcases hy with hy | rfl
          · exact hm.2.1 y hy
          · exact ⟨hp, by omega⟩
      rw [ofF_eq g hm2, ofF_eq g hm, mulF_append]
      simp [mulF]
    have hflat : ∀ out : List Nat, (∀ d ∈ out, d ∈ dv l) → sumI ((out.flatMap fun d => (List.range k).map fun j => d * p ^ (j + 1)).map (ofF g)) = sumI (out.map (ofF g)) * sumI ((List.range k).map fun j => g p (j + 1)) := fun out => by
      induction out with
      | nil => intro _; simp [sumI]
      | cons d out iho =>
        intro hs
        have hd := hs d (by simp)
        rw [List.flatMap_cons, List.map_append, sumI_append, iho fun e he => hs e (by simp [he]), List.map_map, List.map_cons]
        have : (List.range k).map (ofF g ∘ fun j => d * p ^ (j + 1)) = ((List.range k).map fun j => g p (j + 1)).map fun x => ofF g d * x := by
          rw [List.map_map]
          exact List.map_congr_left fun j _ => hone d hd j
        rw [this, sumI_mul]
        simp only [sumI, Int.add_mul]
    rw [hflat (dv l) fun d hd => hd, ih hg]
    simp only [mulF, geo, Int.mul_one, Int.mul_add]

end Wm
