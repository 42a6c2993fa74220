import Derived.Test.YtpenkbhljkmliaaGreatDoorTri
import Derived.Test.YtpenkbhljkmliaaGreatDoorHamming0
import Derived.Laws.AppendOwnNone
import Derived.Test.YtpenkbhljkmliaaGreatDoorRest1
/-
  The contract of prime.Factor.
-/
set_option linter.unusedVariables false
set_option linter.unusedSimpArgs false
namespace Go.Proofs.YtpenkbhljkmliaaGreatDoor
open Go.RowKit Go.BigFrame

theorem powerI : EInfo Tryz.prog 76 80 (.agg #[.int .i64 0, .int .i64 0]) 2 16 := EInfo.mk_ Tryz.underlying76 (by kernel_rfl) rfl (by omega)

/-- Naturals as the program has them. -/
def castP (l : List (Nat × Nat)) : List (Int × Int) := l.map fun x => ((x.1 : Int), (x.2 : Int))
theorem castP_length (l : List (Nat × Nat)) : (castP l).length = l.length := List.length_map _
theorem castP_snoc (l : List (Nat × Nat)) (d k : Nat) : prs (castP (l ++ [(d, k)])) = prs (castP l) ++ [.int .i64 (d : Int), .int .i64 (k : Int)] := by
  simp only [castP, List.map_append, ← prs_append]
  rfl
theorem prs_one' (l : List (Int × Int)) : ∀ u ∈ prs l, u.oneCell' = true := by
  intro u hu
  induction l with
  | nil => simp [prs] at hu
  | cons p l ih =>
    simp only [prs, List.mem_cons] at hu
    rcases hu with rfl | rfl | hu
    · rfl
    · rfl
    · exact ih hu

theorem castP_get' (l : List (Nat × Nat)) (k : Nat) (h : k < l.length) : (castP l).getD k (0, 0) = (((l.getD k (0, 0)).1 : Int), ((l.getD k (0, 0)).2 : Int)) := by
  simp [castP, List.getD_eq_getElem?_getD, List.getElem?_eq_getElem h]
theorem fac_small' {n : Nat} {l : List (Nat × Nat)} (h : Wm.IsFac n l) (hn : n ≤ 1000000) {x : Nat × Nat} (hx : x ∈ l) : 2 ≤ x.1 ∧ x.1 ≤ 1000000 ∧ x.2 ≤ 1000000 := by
  have hp := h.2.1 x hx
  have hdv : x.1 ^ x.2 ∣ n := by
    rw [← h.2.2]
    clear h hp
    induction l with
    | nil => simp at hx
    | cons y l ih =>
      simp only [List.mem_cons] at hx
      rcases hx with rfl | hx
      · exact Nat.dvd_mul_right _ _
      · exact Nat.dvd_trans (ih hx) (Nat.dvd_mul_left _ _)
  have hn0 : 0 < n := by
    rw [← h.2.2]
    exact Nat.lt_of_lt_of_le (Nat.two_pow_pos _) (Wm.prodP_pos h.2.1)
  have h1 := Nat.le_of_dvd hn0 hdv
  have h2 : 2 ≤ x.1 := hp.1.1
  have h3 : x.1 ≤ x.1 ^ x.2 := Nat.le_self_pow (by omega) _
  have h4 : 2 ^ x.2 ≤ x.1 ^ x.2 := Nat.pow_le_pow_left h2 _
  have h5 : x.2 < 2 ^ x.2 := Nat.lt_two_pow_self
  omega

def FacPost (n : Nat) (w w' : World) (e : Ending) : Prop := ∃ (l : List (Nat × Nat)) (v : Value), Wm.IsFac n l ∧ e = .returned (.tuple #[v, .int .i64 0]) ∧ w'.ownsRow w.heap.size 80 2 v l.length (prs (castP l))
def facMu (a b : Value) : Nat := if intOf a ≤ 1 then 0 else 3000 - (intOf b).toNat
theorem facMu_lt {r d r' d' : Int} (h1 : 1 < r) (h2 : r' ≤ 1 ∨ (d < d' ∧ d < 3000 ∧ 0 ≤ d)) (h3 : d < 3000) : facMu (.int .i64 r') (.int .i64 d') < facMu (.int .i64 r) (.int .i64 d) := by
  show (if r' ≤ 1 then 0 else 3000 - d'.toNat) < (if r ≤ 1 then 0 else 3000 - d.toNat)
  split <;> split <;> omega

theorem sq_le_of {d r : Nat} (h : d * d ≤ r) (hr : r ≤ 1000000) : d ≤ 1000 := by
  rcases Nat.lt_or_ge 1000 d with h1 | h1
  · have : 1001 * 1001 ≤ d * d := Nat.mul_le_mul h1 h1
    omega
  · exact h1

set_option maxRecDepth 100000 in
set_option maxHeartbeats 4000000 in
theorem Factor_ok (n : Nat) (h1 : 1 ≤ n) (h6 : n ≤ 1000000) (w : World) :
    Calls Tryz.prog 33 #[.int .i64 n] w fun e w' => FacPost n w w' e ∧ Ext w w' := by
  go_enter Tryz.func33, Tryz.ntmps33
  go_wp2
  go_loopw [0, 4, 5] (fun a v b wr => ∃ (r d : Nat) (l : List (Nat × Nat)), a = .int .i64 r ∧ b = .int .i64 d ∧ r ≤ 1000000 ∧ (r ≤ 1 ∨ d ≤ 1001) ∧ 1 ≤ r ∧ 2 ≤ d ∧ Hid (Wm.FacAt n r d l) ∧ (l = [] → v = .slice none 0 0) ∧ wr.ownsRow w.heap.size 80 2 v l.length (prs (castP l)) ∧ Ext w wr) (fun a _ b _ => facMu a b)
  case atStart => exact ⟨n, 2, [], rfl, rfl, h6, by omega, h1, by omega, hide (Wm.FacAt.start h1), fun _ => rfl, World.ownsRow_nil _ _ _ _, Ext.refl _⟩
  case round =>
    obtain ⟨r, d, l, rfl, rfl, hr6, hd, hr1, hd2, hf, hnil, hown, hext⟩ := hrel
    have HN := hide hnil
    have HO := hide hown
    clear hnil hown
    by_cases hlt : 1 < r
    · have hd' : d ≤ 1001 := by omega
      have hdd : ((d * d : Nat) : Int) = (d : Int) * (d : Int) := Int.natCast_mul d d
      have hb0 : d * d ≤ 1001 * 1001 := Nat.mul_le_mul hd' hd'
      have hll := (unhide hf).len h6
      -- the divisor that is used
      obtain ⟨D, hD, hfD, hmu, hdD⟩ : ∃ D : Nat, D = (if r < d * d then r else d) ∧ Wm.FacAt n r D l ∧ (D = r ∨ (D = d ∧ d ≤ 1000)) ∧ d ≤ D := by
        by_cases h : r < d * d
        · refine ⟨r, by rw [if_pos h], (unhide hf).jump hlt h, .inl rfl, ?_⟩
          rcases Nat.lt_or_ge r d with h' | h'
          · exact absurd (Nat.dvd_refl r) ((unhide hf).2.2.2.2.1 r hlt h')
          · exact h'
        · exact ⟨d, by rw [if_neg h], unhide hf, .inr ⟨rfl, sq_le_of (by omega) hr6⟩, Nat.le_refl _⟩
      have HMU1 := hide (fun (k s : Nat) (hk : 0 < k) (hp : r = D ^ k * s) => (show s ≤ 1 ∨ D ≤ 1000 from by
        rcases hmu with h | ⟨h, h'⟩
        · left
          have h1 : D * s ≤ D ^ k * s := Nat.mul_le_mul_right s (Nat.le_self_pow (by omega) _)
          rw [← hp, h] at h1
          have h2 : r * s ≤ r * 1 := by omega
          exact Nat.le_of_mul_le_mul_left h2 (by omega)
        · right; omega))
      have HMU2 := hide (fun (hno : ¬ D ∣ r) => (show D ≤ 1000 from by
        rcases hmu with h | ⟨h, h'⟩
        · exact absurd (h ▸ Nat.dvd_refl r) hno
        · omega))
      have hD2 : 2 ≤ D := by omega
      have hD6 : D ≤ 1000000 := by rcases hmu with rfl | ⟨rfl, -⟩ <;> omega
      have hDi : (D : Int) ≤ 1000000 := by omega
      have HFD := hide hfD
      have D0 : ¬ (D : Int) = 0 := by omega
      clear hfD hmu
      by_cases hj : r < d * d
      · rw [if_pos hj] at hD
        have hj' : (r : Int) < (d : Int) * (d : Int) := by omega
        have hdd1 : (d : Int) * (d : Int) ≤ 1002001 := by omega
        have hdd0 : 0 ≤ (d : Int) * (d : Int) := by omega
        have hD2' := hD.symm
        clear hD
        subst hD2'
        clear hdd hb0 hj
        go_wp2
        go_loop [0, 6] (fun a b => ∃ s k : Nat, a = .int .i64 s ∧ b = .int .i64 k ∧ s ≤ r ∧ 1 ≤ s ∧ k + s ≤ r ∧ Hid (r = r ^ k * s)) (fun a _ => (intOf a).toNat)
        case atStart => exact ⟨r, 0, rfl, rfl, Nat.le_refl _, by omega, by omega, hide (by simp)⟩
        case round =>
          obtain ⟨s, k, rfl, rfl, hsr, hs1, hks, hpow⟩ := hrel
          have tm : (s : Int).tmod (r : Int) = ((s % r : Nat) : Int) := rfl
          by_cases hm : s % r = 0
          · have hm' : ((s : Int) % (r : Int) == 0) = true := by rw [beq_iff_eq]; omega
            have hdiv : s / r < s := Nat.div_lt_self (by omega) (by omega)
            have hpos : 1 ≤ s / r := Nat.div_pos (Nat.le_of_dvd (by omega) (Nat.dvd_of_mod_eq_zero hm)) (by omega)
            have hp2 := hide (show r = r ^ (k + 1) * (s / r) by
              have e : s = r * (s / r) := (Nat.mul_div_cancel' (Nat.dvd_of_mod_eq_zero hm)).symm
              rw [Nat.pow_succ, Nat.mul_assoc, ← e]; exact unhide hpow)
            have hq : (s : Int) / (r : Int) = ((s / r : Nat) : Int) := rfl
            clear hm tm
            generalize s / r = q at *
            go_wp2
            go_round
            case rel => exact ⟨q, k + 1, by go_num, by go_num, by omega, hpos, by omega, hp2⟩
            case measure => simp [intOf]; omega
          · have hm' : ((s : Int) % (r : Int) == 0) = false := by rw [beq_eq_false_iff_ne]; omega
            have hnd : ¬ r ∣ s := fun h => hm (Nat.mod_eq_zero_of_dvd h)
            have HND := hide hnd
            clear hm tm hnd
            by_cases hk : 0 < k
            · have hnew := (unhide HFD).take hk (unhide hpow) (unhide HND)
              have HNEW := hide hnew
              have hmu' := unhide HMU1 k s hk (unhide hpow)
              have hbd : (l.length + 1) * 16 ≤ 140737488355328 ∧ l.length + 1 ≤ 9223372036854775807 := by omega
              have hcells := castP_snoc l r k
              have HC := hide hcells
              clear hnew hcells
              have hmeas := hide (facMu_lt (r := r) (d := d) (r' := s) (d' := (r : Int) + 1) (by omega) (by rcases hmu' with h | h <;> omega) (by omega))
              go_wp2_with (at_builtin; refine wpList_app rfl _ _ 76 (by rfl) 80 powerI hext _ _ _ _ (by rfl) (unhide HO) 1 1 (by rfl) rfl rfl hbd ?_)
              intro v' w' hown' hext' _
              have hown2 : w'.ownsRow w.heap.size 80 2 v' (l ++ [(r, k)]).length (prs (castP (l ++ [(r, k)]))) := by rw [unhide HC, List.length_append]; exact hown'
              clear hown'
              go_wp2
              go_roundw
              case rel => exact ⟨s, r + 1, l ++ [(r, k)], rfl, by go_num, by omega, by omega, hs1, by omega, HNEW, fun h => by simp at h, hown2, hext'⟩
              case measure => exact unhide hmeas
            · obtain rfl : k = 0 := by omega
              obtain rfl : r = s := by have := unhide hpow; simpa using this
              have hne : r ≠ r := fun h => unhide HND (h ▸ Nat.dvd_refl _)
              first
              | exact absurd rfl hne
              | (have hnew := (unhide HFD).skip (unhide HND)
                 have HNEW := hide hnew
                 have hmu' := unhide HMU2 (unhide HND)
                 clear hnew
                 have hmeas := hide (facMu_lt (r := r) (d := d) (r' := r) (d' := (r : Int) + 1) (by omega) (by omega) (by omega))
                 go_wp2
                 go_roundw
                 case rel => exact ⟨r, r + 1, l, rfl, by go_num, by omega, by omega, hs1, by omega, HNEW, unhide HN, unhide HO, hext⟩
                 case measure => exact unhide hmeas)
      · rw [if_neg hj] at hD
        have hj' : (d : Int) * (d : Int) ≤ (r : Int) := by omega
        have hdd1 : (d : Int) * (d : Int) ≤ 1002001 := by omega
        have hdd0 : 0 ≤ (d : Int) * (d : Int) := by omega
        have hD2' := hD.symm
        clear hD
        subst hD2'
        clear hdd hb0 hj
        go_wp2
        go_loop [0, 6] (fun a b => ∃ s k : Nat, a = .int .i64 s ∧ b = .int .i64 k ∧ s ≤ r ∧ 1 ≤ s ∧ k + s ≤ r ∧ Hid (r = d ^ k * s)) (fun a _ => (intOf a).toNat)
        case atStart => exact ⟨r, 0, rfl, rfl, Nat.le_refl _, by omega, by omega, hide (by simp)⟩
        case round =>
          obtain ⟨s, k, rfl, rfl, hsr, hs1, hks, hpow⟩ := hrel
          have tm : (s : Int).tmod (d : Int) = ((s % d : Nat) : Int) := rfl
          by_cases hm : s % d = 0
          · have hm' : ((s : Int) % (d : Int) == 0) = true := by rw [beq_iff_eq]; omega
            have hdiv : s / d < s := Nat.div_lt_self (by omega) (by omega)
            have hpos : 1 ≤ s / d := Nat.div_pos (Nat.le_of_dvd (by omega) (Nat.dvd_of_mod_eq_zero hm)) (by omega)
            have hp2 := hide (show r = d ^ (k + 1) * (s / d) by
              have e : s = d * (s / d) := (Nat.mul_div_cancel' (Nat.dvd_of_mod_eq_zero hm)).symm
              rw [Nat.pow_succ, Nat.mul_assoc, ← e]; exact unhide hpow)
            have hq : (s : Int) / (d : Int) = ((s / d : Nat) : Int) := rfl
            clear hm tm
            generalize s / d = q at *
            go_wp2
            go_round
            case rel => exact ⟨q, k + 1, by go_num, by go_num, by omega, hpos, by omega, hp2⟩
            case measure => simp [intOf]; omega
          · have hm' : ((s : Int) % (d : Int) == 0) = false := by rw [beq_eq_false_iff_ne]; omega
            have hnd : ¬ d ∣ s := fun h => hm (Nat.mod_eq_zero_of_dvd h)
            have HND := hide hnd
            clear hm tm hnd
            by_cases hk : 0 < k
            · have hnew := (unhide HFD).take hk (unhide hpow) (unhide HND)
              have HNEW := hide hnew
              have hmu' := unhide HMU1 k s hk (unhide hpow)
              have hbd : (l.length + 1) * 16 ≤ 140737488355328 ∧ l.length + 1 ≤ 9223372036854775807 := by omega
              have hcells := castP_snoc l d k
              have HC := hide hcells
              clear hnew hcells
              have hmeas := hide (facMu_lt (r := r) (d := d) (r' := s) (d' := (d : Int) + 1) (by omega) (by rcases hmu' with h | h <;> omega) (by omega))
              go_wp2_with (at_builtin; refine wpList_app rfl _ _ 76 (by rfl) 80 powerI hext _ _ _ _ (by rfl) (unhide HO) 1 1 (by rfl) rfl rfl hbd ?_)
              intro v' w' hown' hext' _
              have hown2 : w'.ownsRow w.heap.size 80 2 v' (l ++ [(d, k)]).length (prs (castP (l ++ [(d, k)]))) := by rw [unhide HC, List.length_append]; exact hown'
              clear hown'
              go_wp2
              go_roundw
              case rel => exact ⟨s, d + 1, l ++ [(d, k)], rfl, by go_num, by omega, by omega, hs1, by omega, HNEW, fun h => by simp at h, hown2, hext'⟩
              case measure => exact unhide hmeas
            · obtain rfl : k = 0 := by omega
              obtain rfl : r = s := by have := unhide hpow; simpa using this
              have hne : d ≠ r := fun h => unhide HND (h ▸ Nat.dvd_refl _)
              first
              | exact absurd rfl hne
              | (have hnew := (unhide HFD).skip (unhide HND)
                 have HNEW := hide hnew
                 have hmu' := unhide HMU2 (unhide HND)
                 clear hnew
                 have hmeas := hide (facMu_lt (r := r) (d := d) (r' := r) (d' := (d : Int) + 1) (by omega) (by omega) (by omega))
                 go_wp2
                 go_roundw
                 case rel => exact ⟨r, d + 1, l, rfl, by go_num, by omega, by omega, hs1, by omega, HNEW, unhide HN, unhide HO, hext⟩
                 case measure => exact unhide hmeas)
    · obtain rfl : r = 1 := by omega
      have hfac := (unhide hf).done (Nat.le_refl _)
      have hll := (unhide hf).len h6
      have HF := hide hfac
      have hmk := make_run0 powerI l.length (by omega) (by omega)
      obtain ⟨i0, hi, hz0, hz1, hz2⟩ := powerI.2.1
      have hsz := hext.size
      by_cases hl : l = []
      · subst hl
        obtain rfl := unhide HN rfl
        have hmk0 : ∀ w : World, (Instr.makeSlice 76 (.int .i64 0) (.int .i64 0)).run Tryz.prog w = .ok (.slice (some ⟨w.heap.size, 0, none⟩) 0 0) (w.alloc (.cells (madeCells (Value.agg #[.int .i64 0, .int .i64 0]).cells (0 * 2)) 80)) := make_run0 powerI 0 (by omega) (by omega)
        have hmade := World.ownsRow_made (base := w.heap.size) (e := 80) (size := 2) wr (madeCells (Value.agg #[.int .i64 0, .int .i64 0]).cells (0 * 2)) 0 hsz (by unfold maxLen; omega) (made_size _ _)
        have HM := hide hmade
        clear hmade hmk
        go_wp2_with (at_builtin; go_loud (refine wpList_append_own_none rfl _ _ 76 (by rfl) w.heap.size 80 i0 2 Tryz.underlying76 hi _ 0 [] (by rfl) (unhide HM) (by rfl) ?_))
        go_wp2
        go_ret2
        exact ⟨⟨[], _, unhide HF, rfl, unhide HM⟩, hext.alloc _⟩
      · have hl0 : 0 < l.length := List.length_pos_iff.2 hl
        have hown := unhide HO
        obtain ⟨g, cap, rfl, hg1, hg2, hg3, hg4, hcell⟩ := row_open hown hl0
        have hmade := World.ownsRow_made (base := w.heap.size) (e := 80) (size := 2) wr (madeCells (Value.agg #[.int .i64 0, .int .i64 0]).cells (l.length * 2)) l.length hsz (by unfold maxLen; omega) (made_size _ _)
        have HM := hide hmade
        have HC := hide hcell
        clear hmade hcell hown HN HO
        unfold maxLen at hg4
        go_wp2_with (at_builtin; refine wpList_append_own _ rfl _ _ 76 (by rfl) w.heap.size 80 i0 _ 2 16 Tryz.underlying76 hi hz0 hz1 hz2 rfl (by decide) _ 0 [] (by rfl) (unhide HM) ⟨g, 0, none⟩ l.length cap (prs (castP l)) (by rfl) ?c0 ?c1 (prs_one' _) ?c3 ?c4 ?c5 ?_)
        case c0 => rw [prs_length, castP_length]
        case c1 =>
          intro j u hj
          have hjl : j < l.length * 2 := by
            have := (List.getElem?_eq_some_iff.1 hj).1
            rw [prs_length, castP_length] at this
            exact this
          have : (⟨g, 0, none⟩ : Addr).add j = ⟨g, j, none⟩ := by
            unfold Addr.add
            split
            · rename_i h0; simp [h0]
            · simp
          rw [this]
          exact (World.cell?_alloc_lt _ _ _ hg2).trans ((unhide HC j hjl).trans hj)
        case c3 => unfold maxLen; omega
        case c4 => omega
        case c5 => simp; omega
        intro v' w' hown' hgrow _
        have hown2 : w'.ownsRow w.heap.size 80 2 v' l.length (prs (castP l)) := by simpa using hown'
        have hext2 := (hext.alloc (.cells (madeCells (Value.agg #[.int .i64 0, .int .i64 0]).cells (l.length * 2)) 80)).grown hgrow (fun q hq => by simp [Value.ownBlock] at hq; omega)
        clear hown' hgrow hmk
        go_wp2
        go_ret2
        exact ⟨⟨l, _, unhide HF, rfl, hown2⟩, hext2⟩

theorem Factor_bad (n : Int) (h : n < 1 ∨ 1000000 < n) (w : World) :
    Calls Tryz.prog 33 #[.int .i64 n] w fun e w' => e = .returned (.tuple #[.slice none 0 0, .int .i64 1]) ∧ w' = w := by
  by_cases h1 : n < 1
  · clear h
    go_enter Tryz.func33, Tryz.ntmps33
    go_wp2
    go_ret2
    exact ⟨rfl, rfl⟩
  · have h2 : 1000000 < n := by omega
    have h3 : decide (1000000 < n) = true := decide_eq_true h2
    clear h
    go_enter Tryz.func33, Tryz.ntmps33
    go_wp2
    go_ret2
    exact ⟨rfl, rfl⟩

end Go.Proofs.YtpenkbhljkmliaaGreatDoor

/-
  The contracts of package prime: Is, Next.
-/
set_option linter.unusedVariables false
set_option linter.unusedSimpArgs false
namespace Go.Proofs.YtpenkbhljkmliaaGreatDoor
open Go.RowKit

theorem tmod_nat (a b : Nat) : (a : Int).tmod (b : Int) = ((a % b : Nat) : Int) := rfl

set_option maxHeartbeats 400000 in
theorem is_any (n : Nat) (hn : n ≤ 1000000) :
    ∀ w : World, Calls Tryz.prog 69 #[.int .i64 n] w fun e w' => e = .returned (.bool (Wm.isp n)) ∧ w' = w := fun w => by
  go_enter Tryz.func69, Tryz.ntmps69
  go_wp2
  go_loop [3] (fun i => ∃ d : Nat, 2 ≤ d ∧ d ≤ 1002 ∧ i = .int .i64 d ∧ Hid (∀ e, 2 ≤ e → e < d → ¬ e ∣ n)) (fun i => 2000 - (intOf i).toNat)
  case atStart => exact ⟨2, by omega, by omega, rfl, hide (fun e h1 h2 => absurd h2 (by omega))⟩
  case round =>
    obtain ⟨d, h2, h3, rfl, hd⟩ := hrel
    have hdd : ((d * d : Nat) : Int) = (d : Int) * (d : Int) := Int.natCast_mul d d
    have hb : d * d ≤ 1002 * 1002 := Nat.mul_le_mul h3 h3
    have hb1 : (d : Int) * (d : Int) ≤ 1004004 := by omega
    have hb0 : 0 ≤ (d : Int) * (d : Int) := by omega
    by_cases hlt : n < d * d
    · have hlt' : (n : Int) < (d : Int) * (d : Int) := by omega
      by_cases h1 : 1 < n
      · have hp := hide (Wm.isp_true (Wm.prime_of_trial h1 hlt (unhide hd)))
        clear hlt hdd hb
        go_wp2
        go_ret
        exact ⟨ret_boolv (by rw [unhide hp]; simp; omega), rfl⟩
      · have hp := hide (Wm.isp_false (n := n) (fun h => h1 h.1))
        clear hlt hdd hb
        go_wp2
        go_ret
        exact ⟨ret_boolv (by rw [unhide hp]; simp; omega), rfl⟩
    · have hlt' : (d : Int) * (d : Int) ≤ (n : Int) := by omega
      have hdn : d < n := by
        have : d * 2 ≤ d * d := Nat.mul_le_mul_left d h2
        omega
      have hd1 : d ≤ 1001 := by
        rcases Nat.lt_or_ge 1001 d with h | h
        · have : 1002 * 1002 ≤ d * d := Nat.mul_le_mul h h
          omega
        · exact h
      clear hlt hdd hb
      by_cases hm : n % d = 0
      · have hp := hide (Wm.isp_false (Wm.not_prime_of_dvd h2 hdn (Nat.dvd_of_mod_eq_zero hm)))
        have hm' : ((n : Int) % (d : Int) == 0) = true := by rw [beq_iff_eq]; omega
        clear hm
        go_wp2
        go_ret
        exact ⟨ret_boolv (unhide hp).symm, rfl⟩
      · have hm' : ((n : Int) % (d : Int) == 0) = false := by rw [beq_eq_false_iff_ne]; omega
        have hnd := hide (fun h => hm (Nat.mod_eq_zero_of_dvd h) : ¬ d ∣ n)
        clear hm
        go_wp2
        go_round
        case rel => exact ⟨d + 1, by omega, by omega, by go_num, hide (fun e h4 h5 => by
          by_cases h : e < d
          · exact unhide hd e h4 h
          · obtain rfl : e = d := by omega
            exact unhide hnd)⟩
        case measure => simp [intOf]; omega

theorem Is_ok (n : Nat) (hn : n ≤ 1000000) (w : World) :
    Calls Tryz.prog 48 #[.int .i64 n] w fun e w' => e = .returned (.tuple #[.bool (Wm.isp n), .int .i64 0]) ∧ w' = w := by
  have c1 := hide (is_any n hn)
  go_enter Tryz.func48, Tryz.ntmps48
  go_wp2_with fail
  refine (unhide c1 w).mono ?_
  rintro e w' ⟨rfl, rfl⟩
  go_wp2
  go_ret2
  exact ⟨rfl, rfl⟩

theorem Is_bad (n : Int) (hn : n < 0 ∨ 1000000 < n) (w : World) :
    Calls Tryz.prog 48 #[.int .i64 n] w fun e w' => e = .returned (.tuple #[.bool false, .int .i64 1]) ∧ w' = w := by
  by_cases h : n < 0
  · go_enter Tryz.func48, Tryz.ntmps48
    go_wp2
    go_ret2
    exact ⟨rfl, rfl⟩
  · have h' : 1000000 < n := by omega
    clear hn
    go_enter Tryz.func48, Tryz.ntmps48
    go_wp2
    go_ret2
    exact ⟨rfl, rfl⟩

end Go.Proofs.YtpenkbhljkmliaaGreatDoor

/-
  The contracts of package square: legendre, Symbol, Root.
-/
set_option linter.unusedVariables false
set_option linter.unusedSimpArgs false
namespace Go.Proofs.YtpenkbhljkmliaaGreatDoor
open Go.RowKit Go.BigFrame

/-- LEGENDRE's symbol as the program has it. -/
def leg (p : Nat) (a : Int) : Int := if a ^ ((p - 1) / 2) % (p : Int) = 0 then 0 else if a ^ ((p - 1) / 2) % (p : Int) = 1 then 1 else -1
theorem leg_bound (p : Nat) (a : Int) : -1 ≤ leg p a ∧ leg p a ≤ 1 := by
  unfold leg; split
  · omega
  · split <;> omega
def jac (a : Int) : List (Nat × Nat) → Int
  | [] => 1
  | x :: l => leg x.1 a ^ x.2 * jac a l
theorem jac_append (a : Int) : ∀ l m, jac a (l ++ m) = jac a l * jac a m
  | [], m => by simp [jac]
  | x :: l, m => by simp only [List.cons_append, jac, jac_append a l m, Int.mul_assoc]
theorem one_mul_bound {x y : Int} (hx : -1 ≤ x ∧ x ≤ 1) (hy : -1 ≤ y ∧ y ≤ 1) : -1 ≤ x * y ∧ x * y ≤ 1 := by
  obtain ⟨x1, x2⟩ := hx
  have : x = -1 ∨ x = 0 ∨ x = 1 := by omega
  rcases this with rfl | rfl | rfl <;> omega
theorem pow_bound {x : Int} (hx : -1 ≤ x ∧ x ≤ 1) : ∀ k : Nat, -1 ≤ x ^ k ∧ x ^ k ≤ 1
  | 0 => by simp
  | k + 1 => by rw [Int.pow_succ]; exact one_mul_bound (pow_bound hx k) hx
theorem jac_bound (a : Int) : ∀ l, -1 ≤ jac a l ∧ jac a l ≤ 1
  | [] => by simp [jac]
  | x :: l => one_mul_bound (pow_bound (leg_bound x.1 a) x.2) (jac_bound a l)

def SymPost (a : Int) (n : Nat) (e : Ending) : Prop := ∃ l, Wm.IsFac n l ∧ e = .returned (.tuple #[.int .i64 (jac a l), .int .i64 0])

theorem castP_get (l : List (Nat × Nat)) (k : Nat) (h : k < l.length) : (castP l).getD k (0, 0) = (((l.getD k (0, 0)).1 : Int), ((l.getD k (0, 0)).2 : Int)) := by
  simp [castP, List.getD_eq_getElem?_getD, List.getElem?_eq_getElem h]

theorem fac_small {n : Nat} {l : List (Nat × Nat)} (h : Wm.IsFac n l) (hn : n ≤ 1000000) {x : Nat × Nat} (hx : x ∈ l) : 2 ≤ x.1 ∧ x.1 ≤ 1000000 ∧ x.2 ≤ 1000000 := by
  have hp := h.2.1 x hx
  have hdv : x.1 ^ x.2 ∣ n := by
    rw [← h.2.2]
    clear h hp
    induction l with
    | nil => simp at hx
    | cons y l ih =>
      simp only [List.mem_cons] at hx
      rcases hx with rfl | hx
      · exact Nat.dvd_mul_right _ _
      · exact Nat.dvd_trans (ih hx) (Nat.dvd_mul_left _ _)
  have hn0 : 0 < n := by
    rw [← h.2.2]
    exact Nat.lt_of_lt_of_le (Nat.two_pow_pos _) (Wm.prodP_pos h.2.1)
  have h1 := Nat.le_of_dvd hn0 hdv
  have h2 : 2 ≤ x.1 := hp.1.1
  have h3 : x.1 ≤ x.1 ^ x.2 := Nat.le_self_pow (by omega) _
  have h4 : 2 ^ x.2 ≤ x.1 ^ x.2 := Nat.pow_le_pow_left h2 _
  have h5 : x.2 < 2 ^ x.2 := Nat.lt_two_pow_self
  omega

def RootPost (a : Int) (p : Nat) (e : Ending) : Prop :=
  (∃ x : Nat, x < p ∧ ((x * x % p : Nat) : Int) = a % (p : Int) ∧ (∀ y, y < x → ((y * y % p : Nat) : Int) ≠ a % (p : Int)) ∧ e = .returned (.tuple #[.int .i64 x, .int .i64 0])) ∨
    ((∀ y, y < p → ((y * y % p : Nat) : Int) ≠ a % (p : Int)) ∧ e = .returned (.tuple #[.int .i64 0, .int .i64 4]))

set_option maxRecDepth 100000 in
set_option maxHeartbeats 2000000 in
theorem Root_ok (a : Int) (p : Nat) (w : World) (hp : Wm.Prime p) (h6 : p ≤ 1000000) :
    Calls Tryz.prog 34 #[.int .i64 a, .int .i64 p] w fun e w' => RootPost a p e ∧ Ext w w' := by
  have hp1 := hp.1
  have c1 := fun w : World => Is_ok p h6 w
  rw [Wm.isp_true hp] at c1
  have C1 := hide c1
  have C2 := hide (fun w : World => of_ok a p w (by omega) (by omega))
  have hb := Wm.emod_bound a (show (0 : Int) < (p : Int) by omega)
  obtain ⟨b1, b2⟩ := hb
  have HPO := hide (rfl : RootPost a p = RootPost a p)
  clear c1 HPO
  obtain ⟨T, hT⟩ : ∃ T : Nat, a % (p : Int) = (T : Int) := ⟨(a % (p : Int)).toNat, by omega⟩
  unfold RootPost
  rw [hT] at b1 b2 ⊢
  have C2 := fun w : World => unhide C2 w
  rw [hT] at C2
  have C2 := hide C2
  clear hT hp hp1
  have q1 : 1 ≤ (p : Int) := by omega
  have q0 : ¬ (p : Int) = 0 := by omega
  have q6 : (p : Int) ≤ 1000000 := by omega
  go_enter Tryz.func34, Tryz.ntmps34
  go_wp2_with fail
  refine (unhide C1 _).mono ?_
  rintro e w1 ⟨rfl, rfl⟩
  go_wp2_with fail
  refine (unhide C2 _).mono ?_
  rintro e w2 ⟨rfl, rfl⟩
  go_wp2_with fail
  go_loop [27] (fun i => ∃ k : Nat, k ≤ p ∧ i = .int .i64 k ∧ Hid (∀ y, y < k → ((y * y % p : Nat) : Int) ≠ (T : Int))) (fun i => p - (intOf i).toNat)
  case atStart => exact ⟨0, by omega, rfl, hide (fun y h => absurd h (by omega))⟩
  case round =>
    obtain ⟨k, hk, rfl, hz⟩ := hrel
    by_cases hlt : k < p
    · have hkk : ((k * k : Nat) : Int) = (k : Int) * (k : Int) := Int.natCast_mul k k
      have hb0 : k * k ≤ 1000000 * 1000000 := Nat.mul_le_mul (by omega) (by omega)
      obtain ⟨Z, hZ⟩ : ∃ Z, k * k % p = Z := ⟨_, rfl⟩
      have hm : (k : Int) * (k : Int) % (p : Int) = (Z : Int) := by rw [← hkk, ← hZ]; rfl
      have hk0 : 0 ≤ (k : Int) * (k : Int) := by omega
      have hk1 : (k : Int) * (k : Int) ≤ 1000000000000 := by omega
      have HZ := hide hZ
      clear hkk hb0 hZ
      by_cases he : Z = T
      · have hb : ((Z : Int) == (T : Int)) = true := by rw [he]; simp
        have hb' : (Z == T) = true := by rw [he]; simp
        have HE := hide he
        clear he
        go_wp2
        go_ret2
        exact ⟨.inl ⟨k, hlt, by have h1 := unhide HZ; rw [unhide HE] at h1; have := congrArg (fun x : Nat => (x : Int)) h1; simpa using this, unhide hz, rfl⟩, Ext.refl _⟩
      · have hb : ((Z : Int) == (T : Int)) = false := by rw [beq_eq_false_iff_ne]; omega
        have hb' : (Z == T) = false := by rw [beq_eq_false_iff_ne]; omega
        have hz' := hide (fun y (hy : y < k + 1) => (show ((y * y % p : Nat) : Int) ≠ (T : Int) from by
          by_cases h : y < k
          · exact unhide hz y h
          · obtain rfl : y = k := by omega
            rw [unhide HZ]; omega))
        clear he
        go_wp2
        go_round
        case rel => exact ⟨k + 1, by omega, by go_num, hz'⟩
        case measure => simp [intOf]; omega
    · obtain rfl : k = p := by omega
      go_wp2
      go_ret2
      exact ⟨.inr ⟨unhide hz, rfl⟩, Ext.refl _⟩

end Go.Proofs.YtpenkbhljkmliaaGreatDoor
