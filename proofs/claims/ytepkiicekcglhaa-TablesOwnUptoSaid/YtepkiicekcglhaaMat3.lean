/-
  Plain: steps between rows, seen by everything linear and alternating; the determinant of a product. No program in sight.
-/
import Derived.Test.YtepkiicekcglhaaMat2
set_option linter.unusedVariables false
set_option linter.unusedSimpArgs false
set_option linter.unusedSectionVars false
namespace Wm
namespace Fld
variable {K : Type} [Fld K]
theorem Alt.zero {n : Nat} {f : (Nat → Nat → K) → K} (hf : Alt n f) (A : Nat → Nat → K) {r : Nat} (hr : r < n) : f (setr A r (fun _ => z)) = z := by
  have h := hf.lin A r hr (fun _ => z) (fun _ => z) o
  simp only [ml_z, ad_z, o_ml] at h
  exact ad_cancel (a := f (setr A r fun _ => z)) (by rw [← h, ad_z])
theorem Alt.none {n : Nat} {f : (Nat → Nat → K) → K} (hf : Alt n f) (A : Nat → Nat → K) {r : Nat} (hr : r < n) (hz : ∀ j, j < n → A r j = z) : f A = z := by
  rw [hf.congr (B := setr A r (fun _ => z)) fun i j _ hj => by
    by_cases e : i = r
    · subst e; rw [setr_at]; exact hz j hj
    · rw [setr_ne _ _ e]]
  exact hf.zero A hr
theorem Alt.scale {n : Nat} {f : (Nat → Nat → K) → K} (hf : Alt n f) (A : Nat → Nat → K) {r : Nat} (hr : r < n) (c : K) :
    f (setr A r (fun j => ml c (A r j))) = ml c (f A) := by
  have h := hf.lin A r hr (fun _ => z) (A r) c
  rw [hf.zero A hr, setr_self, z_ad] at h
  simp only [z_ad] at h
  exact h
theorem Alt.alike {n : Nat} {f : (Nat → Nat → K) → K} (hf : Alt n f) (A : Nat → Nat → K) {p q : Nat} (hpq : p ≠ q) (hp : p < n) (hq : q < n)
    (he : ∀ j, j < n → A p j = A q j) : f A = z := by
  rcases Nat.lt_or_ge p q with h | h
  · exact hf.alt A p q h hq he
  · exact hf.alt A q p (by omega) hp fun j hj => (he j hj).symm
theorem Alt.add {n : Nat} {f : (Nat → Nat → K) → K} (hf : Alt n f) (A : Nat → Nat → K) {r s : Nat} (hr : r < n) (hs : s < n) (h : r ≠ s) (c : K) :
    f (setr A r (fun j => ad (A r j) (ml c (A s j)))) = f A := by
  rw [hf.lin A r hr (A r) (A s) c, setr_self, hf.alike (setr A r (A s)) h hr hs (fun j _ => by rw [setr_at, setr_ne _ _ (Ne.symm h)]), ml_z, ad_z]
theorem Alt.swap (h2 : ∀ a : K, ad a a = z) {n : Nat} {f : (Nat → Nat → K) → K} (hf : Alt n f) (A : Nat → Nat → K) {p q : Nat} (hp : p < n) (hq : q < n) (hpq : p ≠ q) :
    f (setr (setr A p (A q)) q (A p)) = f A := by
  -- p := p + q; q := q + p; p := p + q
  have e : setr (setr A p (A q)) q (A p) = setr (setr (setr A p (fun j => ad (A p j) (ml o (A q j)))) q (A p)) p (fun j => ad (ad (A p j) (A q j)) (ml o (A p j))) := by
    funext k j
    by_cases e : k = p
    · subst e
      rw [setr_ne _ _ hpq, setr_at, setr_at, o_ml, ad_comm (A k j), ad_assoc, h2, ad_z]
    · rw [setr_ne (r := p) (setr _ q _) _ e]
      by_cases e' : k = q
      · subst e'; rw [setr_at, setr_at]
      · rw [setr_ne _ _ e', setr_ne _ _ e', setr_ne _ _ e, setr_ne _ _ e]
  obtain ⟨B, hB⟩ : ∃ B, B = setr A p (fun j => ad (A p j) (ml o (A q j))) := ⟨_, rfl⟩
  have hBp : B p = fun j => ad (A p j) (A q j) := by rw [hB, setr_at]; funext j; rw [o_ml]
  have hBq : B q = A q := by rw [hB, setr_ne _ _ (Ne.symm hpq)]
  have h1 : f B = f A := by rw [hB]; exact hf.add A hp hq hpq o
  obtain ⟨C, hC⟩ : ∃ C, C = setr B q (fun j => ad (B q j) (ml o (B p j))) := ⟨_, rfl⟩
  have hCq : C q = A p := by
    rw [hC, setr_at, hBp, hBq]; funext j
    rw [o_ml]
    show Fld.ad (A q j) (Fld.ad (A p j) (A q j)) = A p j
    rw [ad_comm (A p j), ← ad_assoc, h2, z_ad]
  have hCp : C p = fun j => ad (A p j) (A q j) := by rw [hC, setr_ne _ _ hpq, hBp]
  have h3 : f C = f B := by rw [hC]; exact hf.add B hq hp (Ne.symm hpq) o
  have h4 := hf.add C hp hq hpq o
  rw [hCp, hCq] at h4
  rw [e, ← hB]
  have hC' : C = setr B q (A p) := by
    rw [hC]; congr 1
    rw [hC, setr_at] at hCq
    exact hCq
  rw [← hC', h4, h3, h1]
/-- What steps between rows do to everything linear and alternating. -/
def Red (n : Nat) (A : Nat → Nat → K) (c : K) (B : Nat → Nat → K) : Prop := ∀ f : (Nat → Nat → K) → K, Alt n f → f A = ml c (f B)
theorem Red.refl (n : Nat) (A : Nat → Nat → K) : Red n A o A := fun _ _ => (o_ml _).symm
theorem Red.trans {n : Nat} {A B C : Nat → Nat → K} {c d : K} (h : Red n A c B) (k : Red n B d C) : Red n A (ml c d) C := fun f hf => by
  rw [h f hf, k f hf, ml_assoc]
theorem Red.congr {n : Nat} {A B B' : Nat → Nat → K} {c : K} (h : Red n A c B) (k : Eqm n n B B') : Red n A c B' := fun f hf => by
  rw [h f hf, hf.congr k]
theorem mm_setr (n : Nat) (A B : Nat → Nat → K) (r : Nat) (u : Nat → K) : mm n (setr A r u) B = setr (mm n A B) r (fun j => sm (fun k => ml (u k) (B k j)) n) := by
  funext i j
  show sm (fun k => ml (setr A r u i k) (B k j)) n = _
  by_cases e : i = r
  · subst e; rw [setr_at, setr_at]
  · rw [setr_ne _ _ e, setr_ne _ _ e]; rfl
theorem Alt.times {n : Nat} {f : (Nat → Nat → K) → K} (hf : Alt n f) (B : Nat → Nat → K) : Alt n (fun A => f (mm n A B)) where
  congr h := hf.congr (mm_congr h (Eqm.refl n n B))
  lin A r hr u v c := by
    show f (mm n _ B) = ad (f (mm n _ B)) (ml c (f (mm n _ B)))
    rw [mm_setr, mm_setr, mm_setr, ← hf.lin (mm n A B) r hr]
    congr 2
    funext j
    rw [← sm_ml, ← sm_ad]
    exact sm_congr n fun k _ => by rw [ad_ml, ml_assoc]
  alt A p q hpq hq he := hf.alt _ p q hpq hq fun j _ => sm_congr n fun k hk => by rw [he k hk]
/-- Stepped down to the identity, or to a row of nothing. -/
def Done (n : Nat) (A : Nat → Nat → K) (c : K) : Prop := Red n A c idm ∨ (c = z ∧ ∃ d B r, Red n A d B ∧ r < n ∧ ∀ j, j < n → B r j = z)
theorem Done.val {n : Nat} {A : Nat → Nat → K} {c : K} (h : Done n A c) {f : (Nat → Nat → K) → K} (hf : Alt n f) : f A = ml c (f idm) := by
  rcases h with h | ⟨rfl, d, B, r, h, hr, hz⟩
  · exact h f hf
  · rw [h f hf, hf.none B hr hz, ml_z, z_ml]
theorem Done.dt (h2 : ∀ a : K, ad a a = z) {n : Nat} {A : Nat → Nat → K} {c : K} (h : Done n A c) : c = Fld.dt n A := by
  rw [h.val (dt_alt h2 n), dt_id, ml_o]
theorem Done.times (h2 : ∀ a : K, ad a a = z) {n : Nat} {A B : Nat → Nat → K} {a b c : K} (hA : Done n A a) (hB : Done n B b) (hC : Done n (mm n A B) c) : c = ml a b := by
  rw [hC.dt h2, hB.dt h2, hA.val ((dt_alt h2 n).times B)]
  congr 1
  exact dt_congr n (id_mm B)
end Fld
end Wm
