/-
  The contracts of frac.less, frac.right and frac.lowest.
-/
import Derived.Test.YtdcpijodoppncaaSides0
import Derived.Test.YtdcpijodoppncaaPlus
import Derived.Test.YtdcpijodoppncaaMem
import Derived.Test.YtdcpijodoppncaaRest0
import Derived.BigRegion
set_option linter.unusedVariables false
set_option linter.unusedSimpArgs false
namespace Go.Proofs.Ytdcpijodoppncaa
open Go.RowKit Go.BigFrame
attribute [local go_sem] Nat.lt_add_right

set_option maxHeartbeats 400000 in
theorem less_any (a b c d : Int) (w : World) (h1 : -4000000000000000000 ≤ a * d ∧ a * d ≤ 4000000000000000000) (h2 : -4000000000000000000 ≤ c * b ∧ c * b ≤ 4000000000000000000) :
    Calls Try.prog 24 #[.agg #[.int .i64 a, .int .i64 b], .agg #[.int .i64 c, .int .i64 d]] w fun e w' => e = .returned (.bool (decide (a * d < c * b))) ∧ Ext w w' := by
  have w1 : IntKind.i64.wrap (a * d) = a * d := IntWalk.i64_in _ (by omega)
  have w2 : IntKind.i64.wrap (c * b) = c * b := IntWalk.i64_in _ (by omega)
  clear h1 h2
  go_enter Try.func24, Try.ntmps24
  go_wp2
  go_ret
  exact ⟨rfl, ((Ext.refl _).alloc _).alloc _⟩

def rightB (p q : Int) : Bool := if 1 ≤ q ∧ q ≤ 1000000 ∧ 0 ≤ p ∧ p ≤ 1000000 then true else false
set_option maxHeartbeats 800000 in
theorem right_any (p q : Int) (w : World) :
    Calls Try.prog 22 #[.agg #[.int .i64 p, .int .i64 q]] w fun e w' => e = .returned (.bool (rightB p q)) ∧ Ext w w' := by
  unfold rightB
  by_cases h1 : 1 ≤ q
  · by_cases h2 : q ≤ 1000000
    · by_cases h3 : 0 ≤ p
      · by_cases h4 : p ≤ 1000000
        · rw [if_pos ⟨h1, h2, h3, h4⟩]
          have d2 : decide (q ≤ 1000000) = true := decide_eq_true h2
          have d4 : decide (p ≤ 1000000) = true := decide_eq_true h4
          go_enter Try.func22, Try.ntmps22
          go_wp2
          go_ret
          exact ⟨rfl, (Ext.refl _).alloc _⟩
        · rw [if_neg (by omega)]
          have d2 : decide (q ≤ 1000000) = true := decide_eq_true h2
          have d4 : decide (p ≤ 1000000) = false := decide_eq_false h4
          clear h4
          go_enter Try.func22, Try.ntmps22
          go_wp2
          go_ret
          exact ⟨rfl, (Ext.refl _).alloc _⟩
      · rw [if_neg (by omega)]
        have d2 : decide (q ≤ 1000000) = true := decide_eq_true h2
        have d3 : decide (0 ≤ p) = false := decide_eq_false h3
        clear h3
        go_enter Try.func22, Try.ntmps22
        go_wp2
        go_ret
        exact ⟨rfl, (Ext.refl _).alloc _⟩
    · rw [if_neg (by omega)]
      have d2 : decide (q ≤ 1000000) = false := decide_eq_false h2
      clear h2
      go_enter Try.func22, Try.ntmps22
      go_wp2
      go_ret
      exact ⟨rfl, (Ext.refl _).alloc _⟩
  · rw [if_neg (by omega)]
    have d1 : decide (1 ≤ q) = false := decide_eq_false h1
    clear h1
    go_enter Try.func22, Try.ntmps22
    go_wp2
    go_ret
    exact ⟨rfl, (Ext.refl _).alloc _⟩

set_option maxRecDepth 100000 in
set_option maxHeartbeats 1000000 in
theorem lowest_ok (p q g s t : Nat) (w : World) (hq : 1 ≤ q) (hp6 : p ≤ 4000000000000000000) (hq6 : q ≤ 4000000000000000000) (hg : g = Nat.gcd p q) (hs : p = g * s) (ht : q = g * t) :
    Calls Try.prog 25 #[.int .i64 p, .int .i64 q] w fun e w' => e = .returned (.agg #[.int .i64 s, .int .i64 t]) ∧ Ext w w' := by
  have g0 : 1 ≤ g := by rw [hg]; exact Nat.gcd_pos_of_pos_right _ (by omega)
  have gq : g ≤ q := by rw [hg]; exact Nat.gcd_le_right _ (by omega)
  have e1 : (p : Int).tdiv (g : Int) = (s : Int) := by
    have : (p : Int).tdiv (g : Int) = ((p / g : Nat) : Int) := rfl
    rw [this, hs, Nat.mul_div_cancel_left _ (by omega)]
  have e2 : (q : Int).tdiv (g : Int) = (t : Int) := by
    have : (q : Int).tdiv (g : Int) = ((q / g : Nat) : Int) := rfl
    rw [this, ht, Nat.mul_div_cancel_left _ (by omega)]
  have e3 : (p : Int) / (g : Int) = (s : Int) := e1
  have e4 : (q : Int) / (g : Int) = (t : Int) := e2
  have hsp : s ≤ p := by rw [hs]; exact Nat.le_mul_of_pos_left s (by omega)
  have htq : t ≤ q := by rw [ht]; exact Nat.le_mul_of_pos_left t (by omega)
  have HG := hide hg
  have H1 := hide e1
  have H2 := hide e2
  clear hg hs ht e1 e2 e3 e4
  go_enter Try.func25, Try.ntmps25
  go_wp2
  go_loopw [5, 6] (fun x y wr => ∃ a b : Nat, x = .int .i64 a ∧ y = .int .i64 b ∧ a ≤ 4000000000000000000 ∧ b ≤ 4000000000000000000 ∧ Hid (Nat.gcd a b = g) ∧ ∃ d, wr = (w.alloc (.cells #[.int .i64 0, .int .i64 0] 24)).drewN d) (fun _ y _ => (intOf y).toNat)
  case atStart => exact ⟨p, q, rfl, rfl, hp6, hq6, hide (unhide HG).symm, 0, rfl⟩
  case round =>
    obtain ⟨a, b, rfl, rfl, ha, hb, hgab, d, rfl⟩ := hrel
    by_cases hb0 : b = 0
    · subst hb0
      have hga := unhide hgab
      rw [Nat.gcd_zero_right] at hga
      subst hga
      have e1 := unhide H1
      have e2 := unhide H2
      have e3 : (p : Int) / (a : Int) = (s : Int) := e1
      have e4 : (q : Int) / (a : Int) = (t : Int) := e2
      have a0 : ((a : Int) == 0) = false := by rw [beq_eq_false_iff_ne]; omega
      have a0' : ¬ (a : Int) = 0 := by omega
      go_wp2
      go_region
      go_wp2
      refine bodyPost_ret (v := .agg #[.int .i64 s, .int .i64 t]) (by simp [results, Try.results25, go_sem]) rfl ⟨rfl, ((((Ext.refl w).alloc _).drewN _).setCell (Nat.le_refl _) _).setCell (Nat.le_refl _) _⟩
    · have b0 : ((b : Int) == 0) = false := by rw [beq_eq_false_iff_ne]; omega
      have b0' : ¬ (b : Int) = 0 := by omega
      have b1 : ((b : Int) != 0) = true := by rw [bne_iff_ne]; omega
      obtain ⟨r, hr⟩ : ∃ r, a % b = r := ⟨_, rfl⟩
      have hrl : r < b := by rw [← hr]; exact Nat.mod_lt _ (by omega)
      have r1 : (a : Int).tmod (b : Int) = (r : Int) := by rw [← hr]; rfl
      have r2 : (a : Int) % (b : Int) = (r : Int) := by rw [← hr]; rfl
      have hn := hide (show Nat.gcd b r = g by rw [← hr, Nat.gcd_comm, ← Nat.gcd_rec, Nat.gcd_comm]; exact unhide hgab)
      clear hr hb0
      go_wp2
      go_quiet (fail)
      go_wp2
      go_roundw
      case rel => exact ⟨b, r, rfl, rfl, hb, by omega, hn, _, World.drewN_drewN _ _ _⟩
      case measure => simp [intOf]; omega

/-- A block of two numbers. -/
def Two (w : World) (g : Nat) (a b : Int) : Prop := w.heap[g]? = some (.cells #[.int .i64 a, .int .i64 b] 24 (0, 0))
theorem two_fst (w : World) (a b : Int) (o : Obj) : Two ((w.alloc (.cells #[.int .i64 a, .int .i64 b] 24)).alloc o).drew w.heap.size a b := by
  show ((w.heap.push (.cells #[.int .i64 a, .int .i64 b] 24)).push o)[w.heap.size]? = _
  simp [Array.getElem?_push]
theorem two_snd (w : World) (a b : Int) (o : Obj) : Two ((w.alloc o).alloc (.cells #[.int .i64 a, .int .i64 b] 24)).drew (w.heap.size + 1) a b := by
  show ((w.heap.push o).push (.cells #[.int .i64 a, .int .i64 b] 24))[w.heap.size + 1]? = _
  rw [Array.getElem?_push, if_pos (by simp)]
theorem Two.c0 {w : World} {g : Nat} {a b : Int} (h : Two w g a b) : w.cell? ⟨g, 0, none⟩ = some (.int .i64 a) := by unfold Two at h; simp [World.cell?, h]
theorem Two.c1 {w : World} {g : Nat} {a b : Int} (h : Two w g a b) : w.cell? ⟨g, 1, none⟩ = some (.int .i64 b) := by unfold Two at h; simp [World.cell?, h]
theorem Two.fr {w : World} {g : Nat} {a b : Int} (h : Two w g a b) (j : Nat) : w.frozen? ⟨g, j, none⟩ = false := by unfold Two at h; simp [World.frozen?, h]
theorem Two.keep {w w' : World} {g : Nat} {a b : Int} (h : Two w g a b) (hg : g < w.heap.size) (E : Ext w w') : Two w' g a b := (Below.block E g hg).trans h
theorem Two.set {w : World} {g : Nat} {a b : Int} (h : Two w g a b) (c d : Int) : Two ((w.setCell ⟨g, 0, none⟩ (.int .i64 c)).setCell ⟨g, 1, none⟩ (.int .i64 d)) g c d := by
  unfold Two at *
  simp [World.setCell, Array.getElem?_modify, h]
theorem Two.other {w : World} {g g' j : Nat} {a b : Int} {v : Value} (h : Two w g a b) (hne : g' ≠ g) : Two (w.setCell ⟨g', j, none⟩ v) g a b := by
  unfold Two at *
  simp [World.setCell, Array.getElem?_modify, h, hne]

end Go.Proofs.Ytdcpijodoppncaa
