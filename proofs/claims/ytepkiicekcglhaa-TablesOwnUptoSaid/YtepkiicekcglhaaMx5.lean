/-
  The contracts of matrix.Mul, Det and Rank, whatever they are given.
-/
import Derived.Test.YtepkiicekcglhaaMx4
set_option linter.unusedVariables false
set_option linter.unusedSimpArgs false
namespace Go.Proofs.Ytepkiicekcglhaa
open Go.RowKit Go.BigFrame Wm.Fld

/-- Why there is no product. -/
def mulErr (n : Nat) (ln : Nat → Nat) (n2 : Nat) (ln2 : Nat → Nat) : Int := if chkM n ln ≠ 0 then chkM n ln else if chkM n2 ln2 ≠ 0 then chkM n2 ln2 else if n2 ≠ ln 0 then 3 else 0
def MulOut (w w' : World) (n : Nat) (ln : Nat → Nat) (M : Nat → Nat → Nat) (n2 : Nat) (ln2 : Nat → Nat) (N : Nat → Nat → Nat) (e : Ending) : Prop :=
  (mulErr n ln n2 ln2 ≠ 0 ∧ e = .returned (.tuple #[.slice none 0 0, .int .i64 (mulErr n ln n2 ln2)])) ∨
  (mulErr n ln n2 ln2 = 0 ∧ chkM n ln = 0 ∧ chkM n2 ln2 = 0 ∧ n2 = ln 0 ∧ ∃ g bl cp', e = .returned (.tuple #[.slice (some ⟨g, 0, none⟩) n n, .int .i64 0]) ∧ Tb w' w.heap.size g n bl cp' (ln2 0) (Wm.mulT n2 M N))
set_option maxRecDepth 100000 in
theorem MMul_any (A : Option Addr) (n c : Nat) (ra : Nat → Option Addr) (ln cp : Nat → Nat) (M : Nat → Nat → Nat) (B : Option Addr) (n2 c2 : Nat) (rb : Nat → Option Addr) (ln2 cp2 : Nat → Nat) (N : Nat → Nat → Nat) (w : World)
    (T : Tab w A n ra ln cp M) (S : Tab w B n2 rb ln2 cp2 N) (hn : n ≤ 4611686018427387904) (hn2 : n2 ≤ 4611686018427387904) :
    Calls Try.prog 9 #[.slice A n c, .slice B n2 c2] w fun e w' => MulOut w w' n ln M n2 ln2 N e ∧ Ext w w' := by
  have C1 := hide (MCheck_any A n c ra ln cp M w T hn)
  have C2 := hide (fun (w' : World) (E : Ext w w') => MCheck_any B n2 c2 rb ln2 cp2 N w' (S.keep E) hn2)
  by_cases h1 : chkM n ln = 0
  · by_cases h2 : chkM n2 ln2 = 0
    · by_cases h3 : n2 = ln 0
      · have he : mulErr n ln n2 ln2 = 0 := by unfold mulErr; rw [if_neg (by simpa using h1), if_neg (by simpa using h2), if_neg (by simpa using h3)]
        refine (MMul_ok A n c ra ln cp M B n2 c2 rb ln2 cp2 N w T S h1 h2 h3).mono ?_
        rintro e w' ⟨⟨g, bl, cp', hv, hT⟩, E⟩
        exact ⟨.inr ⟨he, h1, h2, h3, g, bl, cp', hv, hT⟩, E⟩
      · have he : mulErr n ln n2 ln2 = 3 := by unfold mulErr; rw [if_neg (by simpa using h1), if_neg (by simpa using h2), if_pos h3]
        obtain ⟨a1, a2, -, -, -⟩ := chkM_ok h1
        obtain ⟨ba, oa, rfl, hba, hca⟩ := T.hd (by omega)
        have hc0 := hca 0 (by omega)
        rw [Nat.add_zero] at hc0
        have h3B : ((n2 : Int) != (ln 0 : Int)) = true := by rw [bne_iff_ne]; omega
        have HE := hide he
        have HC0 := hide hc0
        rw [h1] at C1
        rw [h2] at C2
        generalize ln 0 = l0 at *
        clear hca hc0 he T S h1 h2
        go_enter Try.func9, Try.ntmps9
        go_wp2_with fail
        refine (unhide C1).mono ?_
        rintro e w1 ⟨rfl, E1⟩
        go_wp2_with fail
        refine (unhide C2 w1 E1).mono ?_
        rintro e w2 ⟨rfl, E2⟩
        have HE2 := hide (E1.trans E2)
        have hc2 := (unhide HE2).keep (unhide HC0)
        clear E1 E2 C1 C2
        generalize ra 0 = r0 at *
        generalize cp 0 = c0 at *
        go_wp2
        go_ret2
        exact ⟨.inl ⟨by rw [unhide HE]; decide, by rw [unhide HE]; rfl⟩, unhide HE2⟩
    · have he : mulErr n ln n2 ln2 = chkM n2 ln2 := by unfold mulErr; rw [if_neg (by simpa using h1), if_pos h2]
      have HE := hide he
      have h2B : (chkM n2 ln2 != 0) = true := by rw [bne_iff_ne]; exact h2
      have H2 := hide h2
      rw [h1] at C1
      generalize chkM n2 ln2 = r at *
      clear he T S h1 h2
      go_enter Try.func9, Try.ntmps9
      go_wp2_with fail
      refine (unhide C1).mono ?_
      rintro e w1 ⟨rfl, E1⟩
      go_wp2_with fail
      refine (unhide C2 w1 E1).mono ?_
      rintro e w2 ⟨rfl, E2⟩
      have HE2 := hide (E1.trans E2)
      clear E1 E2 C1 C2
      go_wp2
      go_ret2
      exact ⟨.inl ⟨by rw [unhide HE]; exact unhide H2, by rw [unhide HE]; rfl⟩, unhide HE2⟩
  · have he : mulErr n ln n2 ln2 = chkM n ln := by unfold mulErr; rw [if_pos h1]
    have HE := hide he
    have h1B : (chkM n ln != 0) = true := by rw [bne_iff_ne]; exact h1
    have H1 := hide h1
    generalize chkM n ln = r at *
    clear he T S h1 C2
    go_enter Try.func9, Try.ntmps9
    go_wp2_with fail
    refine (unhide C1).mono ?_
    rintro e w1 ⟨rfl, E1⟩
    have HE1 := hide E1
    clear E1 C1
    go_wp2
    go_ret2
    exact ⟨.inl ⟨by rw [unhide HE]; exact unhide H1, by rw [unhide HE]; rfl⟩, unhide HE1⟩

/-- What Rank answers. -/
def RankOut (n : Nat) (ln : Nat → Nat) (M : Nat → Nat → Nat) (e : Ending) : Prop :=
  (chkM n ln ≠ 0 ∧ e = .returned (.tuple #[.int .i64 0, .int .i64 (chkM n ln)])) ∨
  (chkM n ln = 0 ∧ ∃ r : Nat, e = .returned (.tuple #[.int .i64 (r : Int), .int .i64 0]) ∧ Rk n (ln 0) r (Wm.m8m M))
set_option maxRecDepth 100000 in
theorem Rank_any (A : Option Addr) (n c : Nat) (ra : Nat → Option Addr) (ln cp : Nat → Nat) (M : Nat → Nat → Nat) (w : World) (T : Tab w A n ra ln cp M) (hn : n ≤ 4611686018427387904) :
    Calls Try.prog 21 #[.slice A n c] w fun e w' => RankOut n ln M e ∧ Ext w w' := by
  have C1 := hide (MCheck_any A n c ra ln cp M w T hn)
  by_cases h1 : chkM n ln = 0
  · obtain ⟨a1, a2, a3, a4, a5⟩ := chkM_ok h1
    have C2 := hide (fun (w' : World) (E : Ext w w') => reduced_ok A n c (ln 0) (ln 0) ra ln cp M w' (T.keep E) a1 (by omega) a3 (by omega) a5 (Nat.le_refl _))
    obtain ⟨ba, oa, rfl, hba, hca⟩ := T.hd (by omega)
    have hc0 := hca 0 (by omega)
    rw [Nat.add_zero] at hc0
    have HC0 := hide hc0
    have H1 := hide h1
    rw [h1] at C1
    obtain ⟨l0, hl0⟩ : ∃ l0, l0 = ln 0 := ⟨_, rfl⟩
    rw [← hl0] at HC0 C2 a3 a4
    have HL0 := hide hl0
    clear hca hc0 T h1 a5 hl0
    go_enter Try.func21, Try.ntmps21
    go_wp2_with fail
    refine (unhide C1).mono ?_
    rintro e w1 ⟨rfl, E1⟩
    have hc1 := E1.keep (unhide HC0)
    generalize ra 0 = r0 at *
    generalize cp 0 = c0 at *
    go_wp2_with fail
    refine (unhide C2 w1 E1).mono ?_
    rintro e w2 ⟨ho, E2⟩
    have HE2 := hide (E1.trans E2)
    obtain ⟨g, cg, bl, cq, v, pv, d, R, rfl, -, -, hd, TB, own, HE⟩ := ho
    obtain ⟨PB, pc, rfl, -, -, -, -⟩ := row_of_own own
    have HRK := hide HE.rank
    clear HE TB own E1 E2 C2 C1
    generalize pv.length = r at *
    go_wp2
    go_ret2
    exact ⟨.inr ⟨unhide H1, r, rfl, by rw [← unhide HL0]; exact unhide HRK⟩, unhide HE2⟩
  · have h1B : (chkM n ln != 0) = true := by rw [bne_iff_ne]; exact h1
    have H1 := hide (show RankOut n ln M (.returned (.tuple #[.int .i64 0, .int .i64 (chkM n ln)])) from .inl ⟨h1, rfl⟩)
    generalize chkM n ln = r at *
    clear h1 T
    go_enter Try.func21, Try.ntmps21
    go_wp2_with fail
    refine (unhide C1).mono ?_
    rintro e w1 ⟨rfl, E1⟩
    go_wp2
    go_ret2
    exact ⟨unhide H1, E1⟩

/-- Why there is no determinant. -/
def detErr (n : Nat) (ln : Nat → Nat) : Int := if chkM n ln ≠ 0 then chkM n ln else if n ≠ ln 0 then 3 else 0
def DetOut (n : Nat) (ln : Nat → Nat) (M : Nat → Nat → Nat) (e : Ending) : Prop :=
  (detErr n ln ≠ 0 ∧ e = .returned (.tuple #[.int .u8 0, .int .i64 (detErr n ln)])) ∨
  (detErr n ln = 0 ∧ chkM n ln = 0 ∧ n = ln 0 ∧ ∃ d : Nat, d < 256 ∧ e = .returned (.tuple #[.int .u8 (d : Int), .int .i64 0]) ∧ Done n (Wm.m8m M) (Wm.m8 d) ∧
    (d = 0 → ∃ v : Nat → Wm.B8, (∃ i, i < n ∧ v i ≠ z) ∧ ∀ j, j < n → sm (fun i => ml (v i) (Wm.m8m M i j)) n = z))
set_option maxRecDepth 100000 in
set_option maxHeartbeats 1000000 in
theorem Det_any (A : Option Addr) (n c : Nat) (ra : Nat → Option Addr) (ln cp : Nat → Nat) (M : Nat → Nat → Nat) (w : World) (T : Tab w A n ra ln cp M) (hn : n ≤ 4611686018427387904) :
    Calls Try.prog 20 #[.slice A n c] w fun e w' => DetOut n ln M e ∧ Ext w w' := by
  have C1 := hide (MCheck_any A n c ra ln cp M w T hn)
  by_cases h1 : chkM n ln = 0
  · obtain ⟨a1, a2, a3, a4, a5⟩ := chkM_ok h1
    obtain ⟨ba, oa, rfl, hba, hca⟩ := T.hd (by omega)
    have hc0 := hca 0 (by omega)
    rw [Nat.add_zero] at hc0
    have HC0 := hide hc0
    by_cases h2 : n = ln 0
    · have he : detErr n ln = 0 := by unfold detErr; rw [if_neg (by simpa using h1), if_neg (by simpa using h2)]
      have C2 := hide (fun (w' : World) (E : Ext w w') => reduced_ok (some ⟨ba, oa, none⟩) n c n n ra ln cp M w' (T.keep E) a1 (by omega) a1 (by omega) (fun i hi => by rw [a5 i hi, ← h2]) (Nat.le_refl _))
      have H1 := hide h1
      have H2 := hide h2
      have HE0 := hide he
      rw [h1] at C1
      rw [← h2] at HC0
      clear hca hc0 T h1 a5 he h2 a3 a4
      go_enter Try.func20, Try.ntmps20
      go_wp2_with fail
      refine (unhide C1).mono ?_
      rintro e w1 ⟨rfl, E1⟩
      have hc1 := E1.keep (unhide HC0)
      generalize ra 0 = r0 at *
      generalize cp 0 = c0 at *
      go_wp2_with fail
      refine (unhide C2 w1 E1).mono ?_
      rintro e w2 ⟨ho, E2⟩
      have HE2 := hide (E1.trans E2)
      obtain ⟨g, cg, bl, cq, v, pv, d, R, rfl, -, -, hd, TB, own, HE⟩ := ho
      obtain ⟨PB, pc, rfl, -, -, -, -⟩ := row_of_own own
      have hdet := HE.det
      unfold detOf at hdet
      have hnull := HE.null (Nat.le_refl _)
      have hplen := HE.len
      have hdne := HE.d_ne
      clear HE TB own E1 E2 C2 C1
      by_cases hp : pv.length < n
      · rw [if_pos hp] at hdet
        have HD := hide hdet
        have HNU := hide (hnull hp)
        have hpI : (pv.length : Int) < (n : Int) := by omega
        clear hdet hnull hplen hp hdne
        generalize pv.length = r at *
        go_wp2
        go_ret2
        exact ⟨.inr ⟨unhide HE0, unhide H1, unhide H2, 0, by omega, rfl, unhide HD, fun _ => unhide HNU⟩, unhide HE2⟩
      · rw [if_neg hp] at hdet
        have HD := hide hdet
        have HDN := hide hdne
        have hpI : ¬ (pv.length : Int) < (n : Int) := by omega
        clear hdet hnull hplen hp hdne
        generalize pv.length = r at *
        go_wp2
        go_ret2
        exact ⟨.inr ⟨unhide HE0, unhide H1, unhide H2, d, hd, rfl, unhide HD, fun h => absurd (by rw [h]; rfl) (unhide HDN)⟩, unhide HE2⟩
    · have he : detErr n ln = 3 := by unfold detErr; rw [if_neg (by simpa using h1), if_pos h2]
      have HO := hide (show DetOut n ln M (.returned (.tuple #[.int .u8 0, .int .i64 3])) from .inl ⟨by rw [he]; decide, by rw [he]⟩)
      have h3B : ((n : Int) != (ln 0 : Int)) = true := by rw [bne_iff_ne]; omega
      rw [h1] at C1
      generalize ln 0 = l0 at *
      clear hca hc0 T h1 a5 he h2 a3 a4
      go_enter Try.func20, Try.ntmps20
      go_wp2_with fail
      refine (unhide C1).mono ?_
      rintro e w1 ⟨rfl, E1⟩
      have hc1 := E1.keep (unhide HC0)
      have HE1 := hide E1
      clear E1 C1
      generalize ra 0 = r0 at *
      generalize cp 0 = c0 at *
      go_wp2
      go_ret2
      exact ⟨unhide HO, unhide HE1⟩
  · have h1B : (chkM n ln != 0) = true := by rw [bne_iff_ne]; exact h1
    have he : detErr n ln = chkM n ln := by unfold detErr; rw [if_pos h1]
    have H1 := hide (show DetOut n ln M (.returned (.tuple #[.int .u8 0, .int .i64 (chkM n ln)])) from .inl ⟨by rw [he]; exact h1, by rw [he]⟩)
    generalize chkM n ln = r at *
    clear h1 T he
    go_enter Try.func20, Try.ntmps20
    go_wp2_with fail
    refine (unhide C1).mono ?_
    rintro e w1 ⟨rfl, E1⟩
    go_wp2
    go_ret2
    exact ⟨unhide H1, E1⟩
end Go.Proofs.Ytepkiicekcglhaa
