/-
  The field of 256 elements: the multiplication by shifts, its laws. The kernel reckons the table of products once against powers of 2. No program in sight.
-/
set_option linter.unusedVariables false
set_option linter.unusedSimpArgs false
namespace Wm

def fstep (x : Nat) : Nat := if 255 < 2 * x then (2 * x) ^^^ 0x11d else 2 * x
/-- The multiplication's loop: f turns. -/
def gm : Nat → Nat → Nat → Nat → Nat
  | 0, _, _, o => o
  | f + 1, x, b, o => gm f (fstep x) (b / 2) (if b % 2 = 1 then o ^^^ x else o)
def fmul (a b : Nat) : Nat := gm 8 a b 0

/-- The powers of 2, eight bits each, and the logarithms. -/
def exTab : Nat := 70160881166704368827218703435136616750530459438269794890424969378298545675077208731798828898087927652446353395360628748027273188182808436399538186061104243134188885576122562338679313492324190829158544377810568631194580132524405266702234305646236648896994794467054525044798919765581988418950285252905306116225263236585714808161311289784028762024137133735135393922581566890382566480334369299400480864790538739986285574563168380416343369614948461817839620668187777978661530364712890858126432457562886306102556561631759900551331094983229723298224611133722330829711659991602983068895685602467964643306841827719562658305
def lgTab : Nat := 22135253156888987530748098150270024343632497605293634117281264061560962248099620766229961468867162294233796152347975563017024165690400661622462404646302566225833645086064538892198543335321514950294300187779610338557442029018619797274438901674641748676613670242915365385819254959901651105240253464034662486586186382979728982817772067067513442677601938078891989292316012868233806586592927239821351197800766822366321181463280924672822998103315976779850880337712374790938628529953751181886374687897611504386983350015558142994211516619836411558782076806704747441947939324473761869443721989389604670425385080942269787340800
def ex (k : Nat) : Nat := (exTab >>> (8 * k)) % 256
def lg (a : Nat) : Nat := (lgTab >>> (8 * a)) % 256

theorem c_step : (List.range 256).all (fun x => decide (fstep x < 256)) = true := by decide +kernel
theorem c_ex : (List.range 255).all (fun k => decide (lg (ex k) = k) && decide (ex k ≠ 0) && decide (ex k < 256)) = true := by decide +kernel
theorem c_lg : (List.range 255).all (fun a => decide (ex (lg (a + 1)) = a + 1) && decide (lg (a + 1) < 255)) = true := by decide +kernel
theorem c_mul : (List.range 255).all (fun a => (List.range 255).all fun b => Nat.beq (fmul (a + 1) (b + 1)) (ex ((lg (a + 1) + lg (b + 1)) % 255))) = true := by decide +kernel
theorem c_zero : (List.range 256).all (fun a => decide (fmul a 0 = 0) && decide (fmul 0 a = 0)) = true := by decide +kernel

theorem fstep_lt {x : Nat} (h : x < 256) : fstep x < 256 := by
  have := List.all_eq_true.1 c_step x (List.mem_range.2 h)
  simpa using this
theorem ex_spec {k : Nat} (h : k < 255) : lg (ex k) = k ∧ ex k ≠ 0 ∧ ex k < 256 := by
  have := List.all_eq_true.1 c_ex k (List.mem_range.2 h)
  simp only [Bool.and_eq_true, decide_eq_true_eq] at this
  exact ⟨this.1.1, this.1.2, this.2⟩
theorem lg_spec {a : Nat} (h0 : a ≠ 0) (h : a < 256) : ex (lg a) = a ∧ lg a < 255 := by
  have := List.all_eq_true.1 c_lg (a - 1) (List.mem_range.2 (by omega))
  simp only [Bool.and_eq_true, decide_eq_true_eq] at this
  rwa [show a - 1 + 1 = a by omega] at this
theorem fmul_ex {a b : Nat} (ha0 : a ≠ 0) (ha : a < 256) (hb0 : b ≠ 0) (hb : b < 256) : fmul a b = ex ((lg a + lg b) % 255) := by
  have h1 := List.all_eq_true.1 c_mul (a - 1) (List.mem_range.2 (by omega))
  have h2 := List.all_eq_true.1 h1 (b - 1) (List.mem_range.2 (by omega))
  have h3 := Nat.eq_of_beq_eq_true h2
  rwa [show a - 1 + 1 = a by omega, show b - 1 + 1 = b by omega] at h3
theorem fmul_zero {a : Nat} (h : a < 256) : fmul a 0 = 0 := by
  have := List.all_eq_true.1 c_zero a (List.mem_range.2 h)
  simp only [Bool.and_eq_true, decide_eq_true_eq] at this
  exact this.1
theorem zero_fmul {a : Nat} (h : a < 256) : fmul 0 a = 0 := by
  have := List.all_eq_true.1 c_zero a (List.mem_range.2 h)
  simp only [Bool.and_eq_true, decide_eq_true_eq] at this
  exact this.2
theorem fmul_ne_zero {a b : Nat} (ha0 : a ≠ 0) (ha : a < 256) (hb0 : b ≠ 0) (hb : b < 256) : fmul a b ≠ 0 := by
  rw [fmul_ex ha0 ha hb0 hb]; exact (ex_spec (Nat.mod_lt _ (by omega))).2.1
theorem fmul_lt {a b : Nat} (ha : a < 256) (hb : b < 256) : fmul a b < 256 := by
  by_cases ha0 : a = 0
  · subst ha0; rw [zero_fmul hb]; omega
  · by_cases hb0 : b = 0
    · subst hb0; rw [fmul_zero ha]; omega
    · rw [fmul_ex ha0 ha hb0 hb]; exact (ex_spec (Nat.mod_lt _ (by omega))).2.2
theorem lg_fmul {a b : Nat} (ha0 : a ≠ 0) (ha : a < 256) (hb0 : b ≠ 0) (hb : b < 256) : lg (fmul a b) = (lg a + lg b) % 255 := by
  rw [fmul_ex ha0 ha hb0 hb]; exact (ex_spec (Nat.mod_lt _ (by omega))).1
theorem fmul_comm {a b : Nat} (ha : a < 256) (hb : b < 256) : fmul a b = fmul b a := by
  by_cases ha0 : a = 0
  · subst ha0; rw [zero_fmul hb, fmul_zero hb]
  · by_cases hb0 : b = 0
    · subst hb0; rw [fmul_zero ha, zero_fmul ha]
    · rw [fmul_ex ha0 ha hb0 hb, fmul_ex hb0 hb ha0 ha, Nat.add_comm]
theorem fmul_assoc {a b c : Nat} (ha : a < 256) (hb : b < 256) (hc : c < 256) : fmul (fmul a b) c = fmul a (fmul b c) := by
  by_cases ha0 : a = 0
  · subst ha0; rw [zero_fmul hb, zero_fmul hc, zero_fmul (fmul_lt hb hc)]
  · by_cases hb0 : b = 0
    · subst hb0; rw [fmul_zero ha, zero_fmul hc, fmul_zero ha]
    · by_cases hc0 : c = 0
      · subst hc0; rw [fmul_zero (fmul_lt ha hb), fmul_zero hb, fmul_zero ha]
      · rw [fmul_ex (fmul_ne_zero ha0 ha hb0 hb) (fmul_lt ha hb) hc0 hc, fmul_ex ha0 ha (fmul_ne_zero hb0 hb hc0 hc) (fmul_lt hb hc), lg_fmul ha0 ha hb0 hb, lg_fmul hb0 hb hc0 hc]
        congr 1
        omega
theorem fmul_one {a : Nat} (ha : a < 256) : fmul a 1 = a := by
  by_cases ha0 : a = 0
  · subst ha0; exact zero_fmul (by omega)
  · have h := lg_spec ha0 ha
    rw [fmul_ex ha0 ha (by omega) (by omega), show lg 1 = 0 by decide +kernel, Nat.add_zero, Nat.mod_eq_of_lt h.2]
    exact h.1
theorem one_fmul {a : Nat} (ha : a < 256) : fmul 1 a = a := by rw [fmul_comm (by omega) ha, fmul_one ha]

theorem xor_swap (o p x : Nat) : (o ^^^ p) ^^^ x = (o ^^^ x) ^^^ p := by rw [Nat.xor_assoc, Nat.xor_comm p x, ← Nat.xor_assoc]
theorem xor_xx (o p x : Nat) : (o ^^^ x) ^^^ (p ^^^ x) = o ^^^ p := by
  rw [Nat.xor_comm p x, ← Nat.xor_assoc, Nat.xor_assoc o x x, Nat.xor_self, Nat.xor_zero]
theorem gm_xor (f : Nat) : ∀ x b c o p, gm f x (b ^^^ c) (o ^^^ p) = gm f x b o ^^^ gm f x c p := by
  induction f with
  | zero => intro x b c o p; rfl
  | succ f ih =>
    intro x b c o p
    simp only [gm, Nat.xor_div_two, Nat.xor_mod_two_eq_one]
    by_cases hb : b % 2 = 1 <;> by_cases hc : c % 2 = 1 <;> simp only [hb, hc, not_true_eq_false, not_false_eq_true, if_true, if_false, iff_self, iff_false, iff_true]
    · rw [← ih, xor_xx]
    · rw [← ih, xor_swap]
    · rw [← ih, Nat.xor_assoc]
    · rw [← ih]
theorem fmul_xor (a b c : Nat) : fmul a (b ^^^ c) = fmul a b ^^^ fmul a c := by
  unfold fmul
  conv => lhs; rw [← Nat.xor_self 0]
  exact gm_xor 8 a b c 0 0
theorem xor_lt {a b : Nat} (ha : a < 256) (hb : b < 256) : a ^^^ b < 256 := Nat.xor_lt_two_pow (n := 8) ha hb
theorem xor_fmul {a b c : Nat} (ha : a < 256) (hb : b < 256) (hc : c < 256) : fmul (b ^^^ c) a = fmul b a ^^^ fmul c a := by
  rw [fmul_comm (xor_lt hb hc) ha, fmul_xor, fmul_comm ha hb, fmul_comm ha hc]
theorem fmul_eq_zero {a b : Nat} (ha : a < 256) (hb : b < 256) : fmul a b = 0 ↔ a = 0 ∨ b = 0 := by
  constructor
  · intro h
    apply Classical.byContradiction
    intro hn
    exact fmul_ne_zero (fun h' => hn (.inl h')) ha (fun h' => hn (.inr h')) hb h
  · rintro (rfl | rfl)
    · exact zero_fmul hb
    · exact fmul_zero ha

/-- Powers. -/
def fpow (a : Nat) : Nat → Nat
  | 0 => 1
  | n + 1 => fmul (fpow a n) a
theorem fpow_lt {a : Nat} (ha : a < 256) (n : Nat) : fpow a n < 256 := by
  induction n with
  | zero => simp only [fpow]; omega
  | succ n ih => exact fmul_lt ih ha
theorem fpow_add {a : Nat} (ha : a < 256) (m n : Nat) : fpow a (m + n) = fmul (fpow a m) (fpow a n) := by
  induction n with
  | zero => rw [Nat.add_zero]; simp only [fpow]; rw [fmul_one (fpow_lt ha m)]
  | succ n ih => rw [← Nat.add_assoc]; simp only [fpow]; rw [ih, fmul_assoc (fpow_lt ha m) (fpow_lt ha n) ha]
theorem fpow_sq {a : Nat} (ha : a < 256) (n : Nat) : fpow (fmul a a) n = fpow a (2 * n) := by
  induction n with
  | zero => rfl
  | succ n ih =>
    rw [show 2 * (n + 1) = 2 * n + 1 + 1 by omega]
    simp only [fpow]
    rw [ih, ← fmul_assoc (fpow_lt ha _) ha ha]
theorem fpow_odd {a o : Nat} (ha : a < 256) (ho : o < 256) {n : Nat} (h : n % 2 = 1) : fmul (fmul o a) (fpow (fmul a a) (n / 2)) = fmul o (fpow a n) := by
  rw [fpow_sq ha, fmul_assoc ho ha (fpow_lt ha _)]
  congr 1
  have e : n = 1 + 2 * (n / 2) := by omega
  conv => rhs; rw [e, fpow_add ha]
  congr 1
  simp only [fpow]
  rw [one_fmul ha]
theorem fpow_even {a : Nat} (ha : a < 256) {n : Nat} (h : n % 2 = 0) : fpow (fmul a a) (n / 2) = fpow a n := by
  rw [fpow_sq ha]; congr 1; omega
theorem fpow_ex {a : Nat} (ha0 : a ≠ 0) (ha : a < 256) (n : Nat) : fpow a n = ex (lg a * n % 255) := by
  induction n with
  | zero => simp only [fpow, Nat.mul_zero]; decide +kernel
  | succ n ih =>
    have h := ex_spec (k := lg a * n % 255) (Nat.mod_lt _ (by omega))
    simp only [fpow]
    rw [ih, fmul_ex h.2.1 h.2.2 ha0 ha, h.1, Nat.mul_succ]
    congr 1
    omega
theorem fpow_255 {a : Nat} (ha0 : a ≠ 0) (ha : a < 256) : fpow a 255 = 1 := by
  rw [fpow_ex ha0 ha, Nat.mul_mod_left]; decide +kernel
theorem fpow_zero_base {n : Nat} (h : 0 < n) : fpow 0 n = 0 := by
  obtain ⟨m, rfl⟩ := Nat.exists_eq_add_of_le (show 1 ≤ n from h)
  rw [Nat.add_comm]; simp only [fpow]; exact fmul_zero (fpow_lt (by omega) m)
theorem fpow_256 {a : Nat} (ha : a < 256) : fpow a 256 = a := by
  by_cases ha0 : a = 0
  · subst ha0; exact fpow_zero_base (by omega)
  · rw [show 256 = 255 + 1 from rfl, fpow_add ha, fpow_255 ha0 ha, one_fmul (fpow_lt ha 1)]
    simp only [fpow]; exact one_fmul ha
theorem fpow_two {a : Nat} (ha : a < 256) : fpow a 2 = fmul a a := by
  simp only [fpow]; rw [one_fmul ha]
theorem fmul_inv {a : Nat} (ha0 : a ≠ 0) (ha : a < 256) : fmul a (fpow a 254) = 1 := by
  rw [fmul_comm ha (fpow_lt ha _)]; exact fpow_255 ha0 ha
theorem finv_ne {a : Nat} (ha0 : a ≠ 0) (ha : a < 256) : fpow a 254 ≠ 0 := fun h => by
  have := fmul_inv ha0 ha
  rw [h, fmul_zero ha] at this
  omega
theorem finv_inv {a : Nat} (ha0 : a ≠ 0) (ha : a < 256) : fpow (fpow a 254) 254 = a := by
  have h1 := fmul_inv ha0 ha
  have hi := fpow_lt ha 254
  have h2 := fmul_inv (finv_ne ha0 ha) hi
  have h3 := fpow_lt hi 254
  calc fpow (fpow a 254) 254 = fmul 1 (fpow (fpow a 254) 254) := (one_fmul h3).symm
    _ = fmul (fmul a (fpow a 254)) (fpow (fpow a 254) 254) := by rw [h1]
    _ = a := by rw [fmul_assoc ha hi h3, h2, fmul_one ha]

/-- The loop stops where the second number is out. -/
theorem gm_zero (f x o : Nat) : gm f x 0 o = o := by
  induction f generalizing x with
  | zero => rfl
  | succ f ih => simp only [gm]; exact ih _

theorem ex_succ {k : Nat} (h : k < 254) : fmul (ex k) 2 = ex (k + 1) := by
  have h1 := ex_spec (k := k) (by omega)
  rw [fmul_ex h1.2.1 h1.2.2 (by omega) (by omega), h1.1, show lg 2 = 1 by decide +kernel, Nat.mod_eq_of_lt (by omega)]
theorem ex_inj {j k : Nat} (hj : j < 255) (hk : k < 255) (h : ex j = ex k) : j = k := by
  rw [← (ex_spec hj).1, h, (ex_spec hk).1]

end Wm
