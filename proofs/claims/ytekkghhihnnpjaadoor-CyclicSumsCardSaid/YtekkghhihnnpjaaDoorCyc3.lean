/-
  The contracts of wholekeep.turn, bitsOf, byOf.
-/
import Derived.Test.YtekkghhihnnpjaaDoorCyc2
set_option linter.unusedVariables false
set_option linter.unusedSimpArgs false
namespace Wm
/-- The first k bits of b, from place a on. -/
def sh (a k : Nat) (b : Nat → Bool) : Nat → Bool := fun j => decide (a ≤ j ∧ j < a + k) && b (j - a)
theorem sh_zero (a : Nat) (b f : Nat → Bool) : fx f (sh a 0 b) = f := by
  funext j
  have : decide (a ≤ j ∧ j < a + 0) = false := decide_eq_false (by omega)
  simp only [fx, sh, this, Bool.false_and, Bool.xor_false]
theorem sh_here (a k : Nat) (b f : Nat → Bool) : fx f (sh a k b) (a + k) = f (a + k) := by
  have : decide (a ≤ a + k ∧ a + k < a + k) = false := decide_eq_false (by omega)
  simp only [fx, sh, this, Bool.false_and, Bool.xor_false]
theorem sh_next {a k : Nat} {b : Nat → Bool} (hb : b k = true) (f : Nat → Bool) : fx f (sh a (k + 1) b) (a + k) = !f (a + k) := by
  have : decide (a ≤ a + k ∧ a + k < a + (k + 1)) = true := decide_eq_true (by omega)
  simp only [fx, sh, this, Bool.true_and, Nat.add_sub_cancel_left, hb, Bool.xor_true]
theorem sh_else (a k : Nat) (b f : Nat → Bool) {j : Nat} (h : j ≠ a + k) : fx f (sh a (k + 1) b) j = fx f (sh a k b) j := by
  have : decide (a ≤ j ∧ j < a + (k + 1)) = decide (a ≤ j ∧ j < a + k) := by rw [decide_eq_decide]; omega
  simp only [fx, sh, this]
theorem sh_no {a k : Nat} {b : Nat → Bool} (hb : b k = false) (f : Nat → Bool) : fx f (sh a (k + 1) b) = fx f (sh a k b) := by
  funext j
  by_cases c : j = a + k
  · subst c
    simp [fx, sh, hb]
  · exact sh_else a k b f c
end Wm
namespace Go.Proofs.YtekkghhihnnpjaaDoor
open Go.RowKit Go.BigFrame
theorem bn_not (b : Bool) : bn b ^^^ 1 = bn (!b) := by cases b <;> decide

set_option maxRecDepth 100000 in
set_option maxHeartbeats 4000000 in
theorem turn_bits (f b : Nat → Bool) (n a L : Nat) (haL : a + L ≤ n) (hn : n ≤ 100000) (w : World) :
    Calls Tryd.prog 16 #[.string (bsF f n), .string (bsF b L), .int .i64 a] w fun e w' => e = .returned (.string (bsF (Wm.fx f (Wm.sh a L b)) n)) ∧ Ext w w' := by
  obtain ⟨s, hs⟩ : ∃ s, s = bsF f n := ⟨_, rfl⟩
  have hsz : s.size = n := by rw [hs]; exact bsF_size _ _
  obtain ⟨c, W1, hconv, E1, hcz, B1⟩ := bytes_of w s
  have hbl : ((List.range s.size).map fun k => sby s k) = bsL f n := by rw [hs]; exact bsL_bytes f n
  rw [hbl] at B1
  obtain ⟨t, ht⟩ : ∃ t, t = bsF b L := ⟨_, rfl⟩
  have htz : t.size = L := by rw [ht]; exact bsF_size _ _
  have HT := hide (fun k (hk : k < t.size) => show (t[k]'hk).toNat = bn (b k) from by
    rw [sby_get t k hk, ht, bsF_by b (by omega)])
  rw [← hs, ← ht]
  have HB := hide B1
  have HE := hide E1
  have htzI : (t.size : Int) = (L : Int) := by omega
  rw [hsz] at hconv hcz
  clear B1 E1 hs ht hbl hsz
  go_enter Tryd.func16, Tryd.ntmps16
  go_wp2
  go_loopw [13] (fun q wr => ∃ k : Nat, k ≤ L ∧ q = .int .i64 k ∧ Hid (Buf wr w.heap.size w.heap.size (nats .u8 (bsL (Wm.fx f (Wm.sh a k b)) n))) ∧ Hid (Ext w wr)) (fun q _ => L - (intOf q).toNat)
  case atStart => exact ⟨0, Nat.zero_le _, rfl, by rw [Wm.sh_zero]; exact HB, HE⟩
  case round =>
    clear HB HE
    obtain ⟨k, hk, rfl, HB, HE⟩ := hrel
    by_cases hlt : k < L
    · have htk := unhide HT k (by omega)
      have hktI : (k : Int) < (t.size : Int) := by omega
      have hk0I : (0 : Int) ≤ (k : Int) := by omega
      by_cases hb : b k = true
      · rw [hb] at htk
        have htk3 : (t[k]'(by omega)).toNat = 49 := htk
        have HBK := hide hb
        obtain ⟨p, hp⟩ : ∃ p, p = a + k := ⟨_, rfl⟩
        have hpI : (a : Int) + (k : Int) = (p : Int) := by omega
        have hpn : p < n := by omega
        have hpnI : (p : Int) < (n : Int) := by omega
        have hp0I : (0 : Int) ≤ (p : Int) := by omega
        have hwp : IntKind.i64.wrap (p : Int) = (p : Int) := IntWalk.i64_in _ (by omega)
        obtain ⟨c1, c2⟩ := (unhide HB).bit (k := p) hpn
        rw [hp, Wm.sh_here, ← hp] at c1
        have HSET := hide (bsL_set (f := Wm.fx f (Wm.sh a k b)) (h := Wm.fx f (Wm.sh a (k + 1) b)) hpn (fun j _ hj => Wm.sh_else a k b f (by omega)))
        have hY : bn (Wm.fx f (Wm.sh a (k + 1) b) p) = bn (f p) ^^^ 1 := by
          rw [bn_not, hp, Wm.sh_next (unhide HBK)]
        have hB8 := bn_lt (f p)
        generalize bn (f p) = B at *
        have x1 : bits .xor .u8 (B : Int) 1 = ((B ^^^ 1 : Nat) : Int) := u8_xor_nat B 1 hB8 (by omega)
        obtain ⟨Y, hYd⟩ : ∃ Y, Y = B ^^^ 1 := ⟨_, rfl⟩
        rw [← hYd] at x1 hY
        have HB2 := hide ((unhide HB).set (k := p) (by rw [nats_length, bsL_length]; exact hpn) (.int .u8 (Y : Int)))
        rw [nats_set, ← hY, unhide HSET] at HB2
        have HE2 := hide ((unhide HE).setCell (p := ⟨w.heap.size, p, none⟩) (Nat.le_refl _) (.int .u8 (Y : Int)))
        have hgz := (unhide HB).2.1
        rw [hY] at HB2
        have HB3 := hide ((unhide HB2).keep ((Ext.refl _).drew))
        have HE3 := hide ((unhide HE2).drew)
        clear HSET hY hYd HB HE hp hb htk
        go_wp2
        go_roundw
        case rel => exact ⟨k + 1, by omega, by go_num, HB2, HE2⟩
        case measure => simp [intOf]; omega
      · have hb : b k = false := by simpa using hb
        rw [hb] at htk
        have htk3 : (t[k]'(by omega)).toNat = 48 := htk
        have HBK := hide hb
        clear hb htk
        go_wp2
        go_roundw
        case rel => exact ⟨k + 1, by omega, by go_num, by rw [Wm.sh_no (unhide HBK)]; exact HB, HE⟩
        case measure => simp [intOf]; omega
    · obtain rfl : L = k := by omega
      have hx := (unhide HB).str (P := Tryd.prog) Tryd.underlying30 Tryd.underlying5 Tryd.underlying9 c
      rw [bsL_length] at hx
      have hx2 : (convert 30 9 (.slice (some ⟨w.heap.size, 0, none⟩) n c)).run Tryd.prog wr = .ok (.string (bsF (Wm.fx f (Wm.sh a L b)) n)) wr := hx
      clear hx
      go_wp2
      go_ret
      exact ⟨rfl, unhide HE⟩
end Go.Proofs.YtekkghhihnnpjaaDoor
