/-
  The contract of cyclic.remainder.
-/
import Derived.Test.YtekkghhihnnpjaaDoorCyc1
import Derived.Deep.RegionLaw
set_option linter.unusedVariables false
set_option linter.unusedSimpArgs false
namespace Wm
def stpk (G : Nat → Bool) (i : Nat) (f : Nat → Bool) (k : Nat) : Nat → Bool := fun j => if j < i then f j else (f j).xor (f i && (G (j - i) && decide (j - i < k)))
theorem stpk_zero (G : Nat → Bool) (i : Nat) (f : Nat → Bool) : stpk G i f 0 = f := by
  funext j; simp only [stpk]; split <;> simp
theorem stpk_all {G : Nat → Bool} {m : Nat} (hG : ∀ k, m < k → G k = false) (i : Nat) (f : Nat → Bool) : stpk G i f (m + 1) = stp G i f := by
  funext j; simp only [stpk, stp]; split
  · rfl
  · by_cases c : j - i < m + 1
    · simp [c]
    · simp [c, hG (j - i) (by omega)]
theorem stpk_here (G : Nat → Bool) (i : Nat) (f : Nat → Bool) (k : Nat) : stpk G i f k (i + k) = f (i + k) := by simp [stpk]
theorem stpk_next {G : Nat → Bool} {i : Nat} {f : Nat → Bool} (hi : f i = true) (k : Nat) : stpk G i f (k + 1) (i + k) = (f (i + k)).xor (G k) := by simp only [stpk]; rw [if_neg (by omega)]; simp [hi]
theorem stpk_else (G : Nat → Bool) (i : Nat) (f : Nat → Bool) {k j : Nat} (h : j ≠ i + k) : stpk G i f (k + 1) j = stpk G i f k j := by
  simp only [stpk]; split
  · rfl
  · by_cases c : j - i < k
    · simp [c, show j - i < k + 1 by omega]
    · simp [c, show ¬ j - i < k + 1 by omega]
theorem stp_no {G : Nat → Bool} {i : Nat} {f : Nat → Bool} (h : f i = false) : stp G i f = f := by
  funext j; simp only [stp]; split <;> simp [h]
end Wm
namespace Go.Proofs.YtekkghhihnnpjaaDoor
open Go.RowKit Go.BigFrame

theorem bsL_set {f h : Nat → Bool} {n k : Nat} (hk : k < n) (e : ∀ j, j < n → j ≠ k → h j = f j) : (bsL f n).set k (bn (h k)) = bsL h n := by
  apply List.ext_getElem?
  intro j
  by_cases c : k = j
  · subst c
    rw [List.getElem?_set_self (by rw [bsL_length]; exact hk)]
    simp [bsL, List.getElem?_range hk]
  · rw [List.getElem?_set_ne c]
    by_cases c2 : j < n
    · simp [bsL, List.getElem?_range c2, e j c2 (fun x => c x.symm)]
    · rw [List.getElem?_eq_none (by rw [bsL_length]; omega), List.getElem?_eq_none (by rw [bsL_length]; omega)]
theorem Buf.bit {w : World} {base g n : Nat} {f : Nat → Bool} (h : Buf w base g (nats .u8 (bsL f n))) {k : Nat} (hk : k < n) : w.cell? ⟨g, k, none⟩ = some (.int .u8 ((bn (f k) : Nat) : Int)) ∧ w.frozen? ⟨g, k, none⟩ = false := by
  have := h.nat (k := k) (by rw [bsL_length]; exact hk)
  rwa [bsL_get f hk] at this
/-- The string of such bytes, from a place on. -/
theorem Buf.tail {P : Program} {src dst e : TypeId} {w : World} {base g n a : Nat} {f : Nat → Bool} (hs : P.underlying src = some (.slice e)) (he : P.underlying e = some (.int .u8)) (hd : P.underlying dst = some .string) (h : Buf w base g (nats .u8 (bsL f (a + n)))) (c : Nat) :
    (convert src dst (.slice (some ⟨g, a, none⟩) n c)).run P w = .ok (.string (bsF (fun j => f (a + j)) n)) w := by
  have := run_convert_bytes_arg w src e hs he g a n c ((bsL (fun j => f (a + j)) n).map fun (x : Nat) => (x : Int)) (by simp [bsL_length]) (fun i hi => by
    rw [(h.bit (by omega)).1, List.getD_eq_getElem?_getD, List.getElem?_map, List.getElem?_eq_getElem (by rw [bsL_length]; exact hi)]
    simp [bsL]) dst hd
  rw [strN_nums] at this
  exact this
theorem bn_xor (a b : Bool) : bn a ^^^ (bn b ^^^ 48) = bn (a.xor b) := by cases a <;> cases b <;> decide
theorem bn_flip (b : Bool) : bn b ^^^ 48 = if b then 1 else 0 := by cases b <;> decide

set_option maxRecDepth 100000 in
set_option maxHeartbeats 4000000 in
theorem remainder_ok (f G : Nat → Bool) (N m : Nat) (h1 : 1 ≤ m) (h16 : m ≤ 16) (hN : N ≤ 1000) (hG : ∀ k, m < k → G k = false) (w : World) :
    Calls Tryd.prog 37 #[.string (bsF f (N + m)), .string (bsF G (m + 1))] w fun e w' => e = .returned (.string (bsF (fun j => Wm.rn G N f (N + j)) m)) ∧ Ext w w' := by
  obtain ⟨n, hn⟩ : ∃ n, n = N + m := ⟨_, rfl⟩
  obtain ⟨s, hs⟩ : ∃ s, s = bsF f n := ⟨_, rfl⟩
  have hsz : s.size = n := by rw [hs]; exact bsF_size _ _
  have hby := hide (fun k (hk : k < s.size) => sby_get s k hk)
  obtain ⟨c, W1, hconv, E1, hcz, B1⟩ := bytes_of w s
  have hbl : ((List.range s.size).map fun k => sby s k) = bsL f n := by rw [hs]; exact bsL_bytes f n
  rw [hbl] at B1
  obtain ⟨t, ht⟩ : ∃ t, t = bsF G (m + 1) := ⟨_, rfl⟩
  have htz : t.size = m + 1 := by rw [ht]; exact bsF_size _ _
  have HT := hide (fun k (hk : k < t.size) => show (t[k]'hk).toNat = bn (G k) from by
    rw [sby_get t k hk, ht, bsF_by G (by omega)])
  rw [← hn, ← hs, ← ht]
  have HB := hide B1
  have HE := hide E1
  have htzI : (t.size : Int) = (m : Int) + 1 := by omega
  have hszI : (s.size : Int) = (n : Int) := by omega
  have HSZ := hide hsz
  rw [hsz] at hconv hcz
  have HNM := hide hn
  have hNmn : N ≤ n ∧ n ≤ N + 16 ∧ n ≤ 1016 := by omega
  clear B1 E1 hs ht hbl hsz hby hn
  go_enter Tryd.func37, Tryd.ntmps37
  go_wp2
  go_loopw [6] (fun q wr => ∃ i : Nat, i ≤ N ∧ q = .int .i64 i ∧ Hid (Buf wr w.heap.size w.heap.size (nats .u8 (bsL (Wm.rn G i f) n))) ∧ Hid (Ext w wr)) (fun q _ => N - (intOf q).toNat)
  case atStart => exact ⟨0, Nat.zero_le _, rfl, HB, HE⟩
  case round =>
    clear HB HE
    obtain ⟨i, hi, rfl, HB, HE⟩ := hrel
    have hn := unhide HNM
    by_cases hlt : i < N
    · have hc1 : decide ((i : Int) + ((m : Int) + 1) ≤ (n : Int)) = true := decide_eq_true (by omega)
      obtain ⟨c1, c2⟩ := (unhide HB).bit (k := i) (by omega)
      have HRN := hide (show Wm.rn G (i + 1) f = Wm.stp G i (Wm.rn G i f) from rfl)
      obtain ⟨F, hF⟩ : ∃ F, F = Wm.rn G i f := ⟨_, rfl⟩
      rw [← hF] at c1 HB HRN
      clear hF
      have hgs := (unhide HB).2.1
      have hin : i + m < n := by omega
      have hinI : (i : Int) + (m : Int) < (n : Int) := by omega
      clear hn
      by_cases hb : F i = true
      · rw [hb] at c1
        have c3 : wr.cell? ⟨w.heap.size, i, none⟩ = some (.int .u8 49) := c1
        clear c1
        have HBI := hide hb
        clear hb
        go_wp2
        go_loopw [26] (fun q wz => ∃ k : Nat, k ≤ m + 1 ∧ q = .int .i64 k ∧ Hid (Buf wz w.heap.size w.heap.size (nats .u8 (bsL (Wm.stpk G i F k) n))) ∧ Hid (Ext w wz)) (fun q _ => m + 1 - (intOf q).toNat)
        case atStart => exact ⟨0, Nat.zero_le _, rfl, by rw [Wm.stpk_zero]; exact HB, HE⟩
        case round =>
          clear HB HE c3 c2
          obtain ⟨k, hk, rfl, HB, HE⟩ := hrel
          by_cases hlt2 : k < m + 1
          · obtain ⟨p, hp⟩ : ∃ p, p = i + k := ⟨_, rfl⟩
            have hpI : (i : Int) + (k : Int) = (p : Int) := by omega
            have hpn : p < n := by omega
            have hpnI : (p : Int) < (n : Int) := by omega
            have hp0I : (0 : Int) ≤ (p : Int) := by omega
            have hwp : IntKind.i64.wrap (p : Int) = (p : Int) := IntWalk.i64_in _ (by omega)
            have hk0I : (0 : Int) ≤ (k : Int) := by omega
            have hktI : (k : Int) < (t.size : Int) := by omega
            have htk := unhide HT k (by omega)
            obtain ⟨c1, c2⟩ := (unhide HB).bit (k := p) hpn
            rw [hp, Wm.stpk_here, ← hp] at c1
            have HSET := hide (bsL_set (f := Wm.stpk G i F k) (h := Wm.stpk G i F (k + 1)) hpn (fun j _ hj => Wm.stpk_else G i F (by omega)))
            have hY : bn (Wm.stpk G i F (k + 1) p) = bn (F p) ^^^ (bn (G k) ^^^ 48) := by
              rw [bn_xor, hp, Wm.stpk_next (unhide HBI)]
            have hB8 := bn_lt (F p)
            have hC8 := bn_lt (G k)
            generalize bn (F p) = B at *
            generalize bn (G k) = C at *
            have hZ8 : C ^^^ 48 < 256 := Nat.xor_lt_two_pow (n := 8) hC8 (by omega)
            have x1 := u8_xor_nat C 48 hC8 (by omega)
            have x2 := u8_xor_nat B (C ^^^ 48) hB8 hZ8
            obtain ⟨Z, hZ⟩ : ∃ Z, Z = C ^^^ 48 := ⟨_, rfl⟩
            rw [← hZ] at x1 x2 hY
            obtain ⟨Y, hYd⟩ : ∃ Y, Y = B ^^^ Z := ⟨_, rfl⟩
            rw [← hYd] at x2 hY
            have HB2 := hide ((unhide HB).set (k := p) (by rw [nats_length, bsL_length]; exact hpn) (.int .u8 (Y : Int)))
            rw [nats_set, ← hY, unhide HSET] at HB2
            have HE2 := hide ((unhide HE).setCell (p := ⟨w.heap.size, p, none⟩) (Nat.le_refl _) (.int .u8 (Y : Int)))
            have hgz := (unhide HB).2.1
            rw [hY] at HB2
            clear HSET hY hYd hZ hZ8 HB HE hp
            go_wp2
            go_region_law (fail)
            all_goals
              have x1' : bits .xor .u8 (C : Int) 48 = (Z : Int) := x1
              rw [x1', x2]
              have HB3 := hide ((unhide HB2).keep ((Ext.refl _).drew))
              have HE3 := hide ((unhide HE2).drew)
              go_wp2
              go_roundw
              case rel => exact ⟨k + 1, by omega, by go_num, HB3, HE3⟩
              case measure => simp [intOf]; omega
          · obtain rfl : k = m + 1 := by omega
            go_wp2
            go_roundw
            case rel => exact ⟨i + 1, by omega, by go_num, by rw [unhide HRN, ← Wm.stpk_all hG]; exact HB, HE⟩
            case measure => simp [intOf]; omega
      · have hb : F i = false := by simpa using hb
        rw [hb] at c1
        have c3 : wr.cell? ⟨w.heap.size, i, none⟩ = some (.int .u8 48) := c1
        clear c1
        have HBI := hide hb
        clear hb
        go_wp2
        go_roundw
        case rel => exact ⟨i + 1, by omega, by go_num, by rw [unhide HRN, Wm.stp_no (unhide HBI)]; exact HB, HE⟩
        case measure => simp [intOf]; omega
    · obtain rfl : N = i := by omega
      have hc1 : decide ((N : Int) + ((m : Int) + 1) ≤ (n : Int)) = false := decide_eq_false (by omega)
      have hcut : (n : Int) - ((m : Int) + 1) + 1 = (N : Int) := by omega
      have hNn : N ≤ n := by omega
      have hcI : (N : Int) ≤ (c : Int) := by omega
      have hnm : n - N = m := by omega
      have hn' := hn
      clear hn
      have HX := hide (fun cc => (Buf.tail (P := Tryd.prog) (src := 30) (dst := 9) (n := m) (a := N) Tryd.underlying30 Tryd.underlying5 Tryd.underlying9 (by rw [← hn']; exact unhide HB) cc))
      clear hn'
      have hx := unhide HX (c - N)
      go_wp2
      go_ret
      exact ⟨rfl, unhide HE⟩
end Go.Proofs.YtekkghhihnnpjaaDoor
