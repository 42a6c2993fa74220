/-
  The contract of matrix.Inverse.
-/
import Derived.Test.YtepkiicekcglhaaMxA
import Derived.Test.YtepkiicekcglhaaMxTimesW
import Derived.Test.YtepkiicekcglhaaAppRow
import Derived.Lib.AppendZeros
import Derived.BigQuiet
set_option linter.unusedVariables false
set_option linter.unusedSimpArgs false
namespace Go.Proofs.Ytepkiicekcglhaa
open Go.RowKit Go.BigFrame Wm.Fld

set_option maxRecDepth 100000 in
set_option maxHeartbeats 1000000 in
theorem concat_u8_grow (N : Nat) (w : World) (hb : N * 1 ≤ 140737488355328) (h63 : N ≤ 4611686018427387904) :
    Calls Try.prog 43 #[.slice none 0 0, .int .i64 N] w fun e w' => (∃ v, e = .returned v ∧ w'.ownsRow w.heap.size 5 1 v 0 []) ∧ Ext w w' := by
  have hi0 : (Try.prog.info? 5).map (fun i => (i.zero, i.size, i.bytes)) = some (some (Value.int .u8 0), 1, 1) := by kernel_rfl
  obtain ⟨i0, hi, hz0, hz1, hz2⟩ := info_parts hi0
  rcases Nat.eq_zero_or_pos N with rfl | h0
  · go_enter Try.func43, Try.ntmps43
    go_wp2
    go_ret
    exact ⟨⟨_, rfl, World.ownsRow_nil _ _ _ _⟩, Ext.refl _⟩
  · have hrun := fun w : World => Lib.run_append_nil_zeros (P := Try.prog) w 23 3 23 5 i0 (Value.int .u8 0) .i64 .i64 Try.underlying23 Try.underlying3 hi hz0 N h0 (by rw [hz1]; decide) (by omega) (by rw [hz2]; omega)
    have hcap := grownCap_le_maxLen w N 0 5 (by unfold maxLen; omega)
    have hge := grownCap_ge w N 0 5
    have hown := World.ownsRow_made (base := w.heap.size) (e := 5) (size := 1) w.drew (Builtin.zeroCells (Value.int .u8 0).cells N ++ Builtin.zeroCells (Value.int .u8 0).cells (grownCap w N 0 5 - N)) (grownCap w N 0 5) (Nat.le_refl _) hcap (by
      have hz : (Value.int .u8 0 : Value).cells.size = 1 := rfl
      simp only [Array.size_append, size_zeroCells, hz, ← Nat.add_mul]
      rw [Nat.add_sub_cancel' hge])
    have HO := hide hown
    clear hown
    have HR := hide (hrun w)
    clear hrun
    generalize grownCap w N 0 5 = C at *
    go_enter Try.func43, Try.ntmps43
    go_wp2_with (at_builtin; refine Lib.wpList_append_run _ rfl _ _ _ _ rfl _ _ rfl rfl _ _ (unhide HR) ?_)
    go_ret
    exact ⟨⟨_, rfl, unhide HO⟩, ((Ext.refl w).drewN 1).alloc _⟩

set_option maxRecDepth 100000 in
set_option maxHeartbeats 1000000 in
theorem concat_u8 (g n c m d : Nat) (A B : Option Addr) (xs ys : List Value) (w : World) (hg : g < w.heap.size) (c0 : w.cell? ⟨g, 0, none⟩ = some (.slice A n c)) (c1 : w.cell? ⟨g, 1, none⟩ = some (.slice B m d))
    (R : Row w A n 1 xs) (S : Row w B m 1 ys) (o1 : ∀ u ∈ xs, u.oneCell' = true) (o2 : ∀ u ∈ ys, u.oneCell' = true) (hA : A = none → n = 0 ∧ c = 0) (hB : B = none → m = 0 ∧ d = 0)
    (hb : (n + m) * 1 ≤ 140737488355328) (h63 : n + m ≤ 4611686018427387904) :
    Calls Try.prog 27 #[.slice (some ⟨g, 0, none⟩) 2 2] w fun e w' => (∃ v, e = .returned v ∧ w'.ownsRow w.heap.size 5 1 v (n + m) (xs ++ ys)) ∧ Ext w w' := by
  have hI : EInfo Try.prog 23 5 (Value.int .u8 0) 1 1 := EInfo.mk_ Try.underlying23 (by kernel_rfl) rfl (by omega)
  have hgrow := concat_u8_grow (n + m) w hb h63
  have HG := hide hgrow
  have HR := hide R
  have HS := hide S
  have HI := hide hI
  have C0 := hide (fun (w' : World) (E : Ext w w') => (E.cell (p := ⟨g, 0, none⟩) hg).trans c0)
  have C1 := hide (fun (w' : World) (E : Ext w w') => (E.cell (p := ⟨g, 1, none⟩) hg).trans c1)
  have HA := hide hA
  have HB := hide hB
  have O1 := hide o1
  have O2 := hide o2
  clear hgrow R S hI hA hB o1 o2
  go_enter Try.func27, Try.ntmps27
  go_wp2
  go_loopw [3, 5, 11] (fun s _ i wr => w = wr ∧ ((i = .int .i64 0 ∧ s = .int .i64 0) ∨ (i = .int .i64 1 ∧ s = .int .i64 (n : Int)) ∨ (i = .int .i64 2 ∧ s = .int .i64 ((n + m : Nat) : Int)))) (fun _ _ i _ => 2 - (intOf i).toNat)
  case atStart => exact ⟨rfl, .inl ⟨rfl, rfl⟩⟩
  case round =>
    obtain ⟨rfl, ⟨rfl, rfl⟩ | ⟨rfl, rfl⟩ | ⟨rfl, rfl⟩⟩ := hrel
    · go_wp2
      go_roundw
      case rel => exact ⟨by first | trivial | rfl, .inr (.inl ⟨rfl, by go_num⟩)⟩
      case measure => simp [intOf]
    · go_wp2
      go_roundw
      case rel => exact ⟨by first | trivial | rfl, .inr (.inr ⟨rfl, by go_num⟩)⟩
      case measure => simp [intOf]
    · go_wp2_with fail
      refine (unhide HG).mono ?_
      rintro e w1 ⟨⟨v, rfl, hown⟩, E1⟩
      go_wp2
      go_loopw [6, 8, 27] (fun s _ i wr => ∃ (N : Nat) (zs : List Value), ((i = .int .i64 0 ∧ N = 0 ∧ zs = []) ∨ (i = .int .i64 1 ∧ N = n ∧ zs = xs) ∨ (i = .int .i64 2 ∧ N = n + m ∧ zs = xs ++ ys)) ∧ wr.ownsRow w.heap.size 5 1 s N zs ∧ Ext w wr) (fun _ _ i _ => 2 - (intOf i).toNat)
      case atStart => exact ⟨0, [], .inl ⟨rfl, rfl, rfl⟩, hown, E1⟩
      case round =>
        clear hown
        obtain ⟨N, zs, ⟨rfl, rfl, rfl⟩ | ⟨rfl, rfl, rfl⟩ | ⟨rfl, rfl, rfl⟩, hown, E2⟩ := hrel
        · have d0 := unhide C0 _ E2
          have hs := E2.size
          go_wp2_with (at_builtin; refine wpList_append_row rfl _ _ 23 (by rfl) w.heap.size 5 (unhide HI) _ 0 [] (by rfl) hown A n c xs (by rfl) ((unhide HR).keep E2) (unhide HA) (unhide O1) (by unfold maxLen; omega) (by omega) hs ?_)
          intro v' w' hown' hgrow
          have E3 := E2.grown hgrow (fun q hq => (hown.lt q hq).1)
          clear hgrow hown
          go_wp2
          go_roundw
          case rel => exact ⟨_, _, .inr (.inl ⟨rfl, rfl, rfl⟩), hown', E3⟩
          case measure => simp [intOf]
        · have d1 := unhide C1 _ E2
          have hs := E2.size
          go_wp2_with (at_builtin; refine wpList_append_row rfl _ _ 23 (by rfl) w.heap.size 5 (unhide HI) _ _ _ (by rfl) hown B m d ys (by rfl) ((unhide HS).keep E2) (unhide HB) (unhide O2) (by unfold maxLen; omega) (by omega) hs ?_)
          intro v' w' hown' hgrow
          have E3 := E2.grown hgrow (fun q hq => (hown.lt q hq).1)
          clear hgrow hown
          go_wp2
          go_roundw
          case rel => exact ⟨_, _, .inr (.inr ⟨rfl, rfl, rfl⟩), hown', E3⟩
          case measure => simp [intOf]
        · go_wp2
          go_ret
          exact ⟨⟨_, rfl, hown⟩, E2⟩


theorem Ext.quietly {W W' : World} (h : Ext W W') : W.grownBy W' none := ⟨h.os, h.tape, h.output, h.size, fun k hk _ => h.block k hk⟩
theorem own_lower {w : World} {b b' : Nat} {e : TypeId} {sz n : Nat} {v : Value} {xs : List Value} (h : w.ownsRow b e sz v n xs) (hb : b' ≤ b) : w.ownsRow b' e sz v n xs := by
  obtain ⟨h1, h2⟩ := h
  refine ⟨h1, ?_⟩
  rcases h2 with h2 | ⟨g, cap, cur, hv, hg, r⟩
  · exact .inl h2
  · exact .inr ⟨g, cap, cur, hv, Nat.le_trans hb hg, r⟩

/-- The current row is done, as it is. -/
theorem Gr.shut {e : TypeId} {w0 W : World} {g n k l m : Nat} {bl cp : Nat → Nat} {M : Nat → Nat → Nat} {xs : List Nat} {A : Option Addr} {c : Nat} (T : Gr e w0 W g n k l bl cp M (.slice A m c) m xs) (hk : k < n) (hl : 0 < m) (hml : m = l) {f : Nat → Nat} (hf : ∀ j, j < l → xs.getD j 0 = f j) :
    ∃ b, A = some ⟨b, 0, none⟩ ∧ Gr e w0 W g n (k + 1) l (upf bl k b) (upf cp k c) (upf M k f) (.slice none 0 0) 0 [] := by
  subst hml
  obtain ⟨b, cap, hv, hb1, hb2, hlc, hcm, hcell⟩ := row_open T.own hl
  injection hv with hA _ hc
  subst hA; subst hc
  have hlen : xs.length = m := by have := T.own.1; rw [nats_length] at this; omega
  have hfz : ∀ j, W.frozen? ⟨b, j, none⟩ = false := fun j => by
    rcases T.own.2 with ⟨h, -⟩ | ⟨q, cp, cur, h, -, hh, -⟩
    · cases h
    · injection h with h
      simp only [Option.some.injEq, Addr.mk.injEq, and_true] at h
      subst h
      simp [World.frozen?, hh]
  have hbg : b ≠ g := fun e => T.v_g (by rw [← e]; rfl)
  have hbb : ∀ i, i < k → b ≠ bl i := fun i hi e => T.v_b i hi (by rw [← e]; rfl)
  refine ⟨b, rfl, ?_⟩
  exact {
    ext := T.ext
    g_lo := T.g_lo
    g_hi := T.g_hi
    hd := fun i hi => by
      by_cases d : i = k
      · subst d
        rw [upf_same, upf_same]
        exact T.cur hk
      · rw [upf_ne _ _ d, upf_ne _ _ d]; exact T.hd i (by omega)
    cur := fun h => T.rest (k + 1) (by omega) h
    rest := fun i hi h => T.rest i (by omega) h
    hd_f := T.hd_f
    own := World.ownsRow_nil _ _ _ _
    v_g := fun h => by cases h
    v_b := fun i _ h => by cases h
    b_lo := fun i hi => by
      by_cases d : i = k
      · subst d; rw [upf_same]; exact hb1
      · rw [upf_ne _ _ d]; exact T.b_lo i (by omega)
    b_hi := fun i hi => by
      by_cases d : i = k
      · subst d; rw [upf_same]; exact hb2
      · rw [upf_ne _ _ d]; exact T.b_hi i (by omega)
    b_g := fun i hi => by
      by_cases d : i = k
      · subst d; rw [upf_same]; exact hbg
      · rw [upf_ne _ _ d]; exact T.b_g i (by omega)
    inj := fun i j hi hj h => by
      by_cases d : i = k <;> by_cases d2 : j = k
      · omega
      · rw [d, upf_same, upf_ne _ _ d2] at h; exact absurd h (hbb j (by omega))
      · rw [d2, upf_same, upf_ne _ _ d] at h; exact absurd h.symm (hbb i (by omega))
      · rw [upf_ne _ _ d, upf_ne _ _ d2] at h; exact T.inj i j (by omega) (by omega) h
    cap := fun i hi => by
      by_cases d : i = k
      · subst d; rw [upf_same]; exact ⟨hlc, by unfold maxLen at hcm; omega⟩
      · rw [upf_ne _ _ d]; exact T.cap i (by omega)
    cell := fun i j hi hj => by
      by_cases d : i = k
      · subst d
        rw [upf_same, upf_same, hcell j (by omega), nats_get _ _ _ (by omega), hf j hj]
      · rw [upf_ne _ _ d, upf_ne _ _ d]; exact T.cell i j (by omega) hj
    cell_f := fun i j hi hj => by
      by_cases d : i = k
      · subst d; rw [upf_same]; exact hfz j
      · rw [upf_ne _ _ d]; exact T.cell_f i j (by omega) hj
    room := fun i hi => by
      by_cases d : i = k
      · subst d; rw [upf_same, upf_same]; exact Roomy.own T.own
      · rw [upf_ne _ _ d, upf_ne _ _ d]; exact T.room i (by omega) }

/-- The units beside, as numbers. -/
def wideN (n : Nat) (M : Nat → Nat → Nat) : Nat → Nat → Nat := fun i j => if j < n then M i j else if i = j - n then 1 else 0
theorem wideN_m8 (n : Nat) (M : Nat → Nat → Nat) : Wm.m8m (wideN n M) = wide n (Wm.m8m M) := by
  funext i j
  show Wm.m8 (wideN n M i j) = _
  unfold wideN wide idm
  by_cases c : j < n
  · rw [if_pos c, if_pos c]; rfl
  · rw [if_neg c, if_neg c]
    by_cases d : i = j - n
    · rw [if_pos d, if_pos d]; rfl
    · rw [if_neg d, if_neg d]; rfl
theorem wideN_lt {n : Nat} {M : Nat → Nat → Nat} (h : ∀ i j, M i j < 256) (i j : Nat) : wideN n M i j < 256 := by
  unfold wideN
  split
  · exact h i j
  · split <;> omega

def InvOut (w w' : World) (n : Nat) (ln : Nat → Nat) (M : Nat → Nat → Nat) (e : Ending) : Prop :=
  (detErr n ln ≠ 0 ∧ e = .returned (.tuple #[.slice none 0 0, .int .i64 (detErr n ln)])) ∨
  (detErr n ln = 0 ∧ chkM n ln = 0 ∧ n = ln 0 ∧ ((e = .returned (.tuple #[.slice none 0 0, .int .i64 5]) ∧ Done n (Wm.m8m M) z) ∨
    (∃ d : Wm.B8, d ≠ z ∧ Done n (Wm.m8m M) d ∧ ∃ g bl cp R, e = .returned (.tuple #[.slice (some ⟨g, 0, none⟩) n n, .int .i64 0]) ∧ Tb w' w.heap.size g n bl cp n R ∧ Inv n (Wm.m8m M) (Wm.m8m R))))

--{
set_option maxRecDepth 100000 in
set_option maxHeartbeats 4000000 in
theorem Inverse_any (A : Option Addr) (n c : Nat) (ra : Nat → Option Addr) (ln cp : Nat → Nat) (M : Nat → Nat → Nat) (w : World) (T : Tab w A n ra ln cp M) (hn : n ≤ 4611686018427387904) :
    Calls Try.prog 10 #[.slice A n c] w fun e w' => InvOut w w' n ln M e ∧ Ext w w' := by
  have CD := hide (Det_any A n c ra ln cp M w T hn)
  have HT := hide T
  clear T
  by_cases h0 : detErr n ln = 0
  · have hck : chkM n ln = 0 ∧ n = ln 0 := by
      unfold detErr at h0
      by_cases a : chkM n ln ≠ 0
      · rw [if_pos a] at h0; exact absurd h0 a
      · rw [if_neg a] at h0
        by_cases b : n ≠ ln 0
        · rw [if_pos b] at h0; omega
        · exact ⟨by omega, by omega⟩
    obtain ⟨a1, a2, a3, a4, a5⟩ := chkM_ok hck.1
    have HCK := hide hck
    have HLN := hide (show ∀ i, i < n → ln i = n from fun i hi => by rw [a5 i hi]; exact hck.2.symm)
    obtain ⟨ba, oa, rfl, hba, hca⟩ := (unhide HT).hd (by omega)
    have HCA := hide (show ∀ i, i < n → w.cell? ⟨ba, oa + i, none⟩ = some (.slice (ra i) n (cp i)) from fun i hi => by rw [hca i hi, unhide HLN i hi])
    have HD0 := hide h0
    have hmd : ∀ w : World, (Instr.makeSlice 23 (.int .i64 (n : Int)) (.int .i64 (n : Int))).run Try.prog w = .ok (.slice (some ⟨w.heap.size, 0, none⟩) n n) (w.alloc (.cells (madeCells #[.int .u8 0] n) 5)) := fun w => by
      have := make_run byteM n n (Nat.le_refl _) (by omega) (by omega) w
      rw [Nat.mul_one] at this
      exact this
    have hmk : ∀ w : World, (Instr.makeSlice 22 (.int .i64 (n : Int)) (.int .i64 (n : Int))).run Try.prog w = .ok (.slice (some ⟨w.heap.size, 0, none⟩) n n) (w.alloc (.cells (madeCells #[.slice none 0 0] n) 23)) := fun w => by
      have := make_run rowM n n (Nat.le_refl _) (by omega) (by omega) w
      rw [Nat.mul_one] at this
      exact this
    clear a3 a4 a5 hca h0 hck
    go_enter Try.func10, Try.ntmps10
    go_wp2_with fail
    refine (unhide CD).mono ?_
    rintro e w1 ⟨ho, E1⟩
    have HE1 := hide E1
    clear CD E1
    rcases ho with ⟨hne, -⟩ | ⟨-, -, -, d, hd8, rfl, hdone, -⟩
    · exact absurd (unhide HD0) hne
    by_cases hd : d = 0
    · subst hd
      have HDN := hide hdone
      clear hdone
      go_wp2
      go_ret2
      exact ⟨.inr ⟨unhide HD0, (unhide HCK).1, (unhide HCK).2, .inl ⟨rfl, unhide HDN⟩⟩, unhide HE1⟩
    have hdB : ((d : Int) == 0) = false := by rw [beq_eq_false_iff_ne]; omega
    have HDN := hide hdone
    have hd0 : Wm.m8 d ≠ z := fun e => hd (by
      have := Wm.m8_inj hd8 (show (0 : Nat) < 256 by omega) e
      exact this)
    have HDZ := hide hd0
    clear hdone hd0
    go_wp2
    go_loopw [6, 28] (fun v i wr => ∃ x : Nat, x ≤ n ∧ i = .int .i64 x ∧ ∃ bl cq : Nat → Nat, Hid (Bld 23 w1 wr v x bl cq (n + n) (wideN n M))) (fun _ i _ => n - (intOf i).toNat)
    case atStart => exact ⟨0, Nat.zero_le _, rfl, _, _, hide (Bld.nil 23 w1 (fun _ => 0) (fun _ => 0) (n + n) (wideN n M))⟩
    case round =>
      obtain ⟨x, hx, rfl, bl, cq, HB⟩ := hrel
      by_cases hlt : x < n
      · obtain ⟨wa, hwa⟩ : ∃ wa, wa = wr := ⟨_, rfl⟩
        subst hwa
        have HEA := hide ((unhide HE1).trans (unhide HB).ext)
        have hcx := (unhide HEA).keep (unhide HCA x hlt)
        have RX := ((unhide HT).keep (unhide HEA)).rowN hlt
        obtain ⟨bx, ox, hrx, -, -⟩ := (unhide HT).row x hlt (by rw [unhide HLN x hlt]; omega)
        rw [unhide HLN x hlt, hrx] at RX
        rw [hrx] at hcx
        have hcp := (unhide HT).cap x hlt
        rw [unhide HLN x hlt] at hcp
        -- the unit's row
        have MM := Made.make (w := wa) (base := wa.heap.size) (e := 5) (.int .u8 0) n (Nat.le_refl _) (by omega)
        have hmc : ∀ j, j < n → (wa.alloc (.cells (madeCells #[.int .u8 0] n) 5)).cell? ⟨wa.heap.size, j, none⟩ = some (.int .u8 0) := fun j hj => by
          rw [MM.cell hj, List.getD_eq_getElem?_getD]; simp [hj]
        have hcl : ∀ (X : Array Value) (j : Nat), (wa.alloc (.cells X 5)).cell? ⟨wa.heap.size, j, none⟩ = X[j]? := fun X j => by simp
        have hmz : ∀ j, j < n → (madeCells #[.int .u8 0] n)[j]? = some (.int .u8 0) := fun j hj => by rw [← hcl]; exact hmc j hj
        have hmx := hmc x hlt
        have hmf := MM.frozen x
        obtain ⟨w2, hw2⟩ : ∃ w2, w2 = wa.alloc (.cells ((madeCells #[.int .u8 0] n).setIfInBounds x (.int .u8 1)) 5) := ⟨_, rfl⟩
        have EW2 : Ext wa w2 := by rw [hw2]; exact (Ext.refl wa).alloc _
        have hunit : ∀ j, j < n → w2.cell? ⟨wa.heap.size, j, none⟩ = some (.int .u8 ((if x = j then 1 else 0 : Nat) : Int)) := fun j hj => by
          rw [hw2, hcl, Array.getElem?_setIfInBounds]
          by_cases cc : x = j
          · subst cc
            have hlen : x < (madeCells #[.int .u8 0] n).size := by
              have := hmz x hj
              exact (Array.getElem?_eq_some_iff.1 this).1
            rw [if_pos rfl, if_pos hlen, if_pos rfl]; rfl
          · rw [if_neg cc, hmz j hj, if_neg cc]; rfl
        have hsz2 : w2.heap.size = wa.heap.size + 1 := by rw [hw2]; simp
        generalize cp x = cx at *
        obtain ⟨w3, hw3⟩ : ∃ w3, w3 = w2.alloc (.cells #[.slice (some ⟨bx, ox, none⟩) n cx, .slice (some ⟨wa.heap.size, 0, none⟩) n n] 23) := ⟨_, rfl⟩
        have EW3 : Ext w2 w3 := by rw [hw3]; exact (Ext.refl w2).alloc _
        have hc0 : w3.cell? ⟨w2.heap.size, 0, none⟩ = some (.slice (some ⟨bx, ox, none⟩) n cx) := by rw [hw3]; simp
        have hc1 : w3.cell? ⟨w2.heap.size, 1, none⟩ = some (.slice (some ⟨wa.heap.size, 0, none⟩) n n) := by rw [hw3]; simp
        have hg3 : w2.heap.size < w3.heap.size := by rw [hw3]; simp
        have RU : Row w2 (some ⟨wa.heap.size, 0, none⟩) n 1 (nats .u8 ((List.range n).map fun j => if x = j then 1 else 0)) := ⟨by simp [nats], fun h => ⟨_, _, rfl, by omega, fun j hj => by
          rw [Nat.zero_add, hunit j (by omega), nats_get _ _ _ (by simpa using hj)]
          have hj' : j < n := by omega
          simp [hj']⟩⟩
        have CC := hide (concat_u8 w2.heap.size n cx n n (some ⟨bx, ox, none⟩) (some ⟨wa.heap.size, 0, none⟩) _ _ w3 hg3 hc0 hc1 (RX.keep (EW2.trans EW3)) (RU.keep EW3) (fun u hu => by
          simp only [nats, List.mem_map] at hu
          obtain ⟨y, -, rfl⟩ := hu
          rfl) (fun u hu => by
          simp only [nats, List.mem_map] at hu
          obtain ⟨y, -, rfl⟩ := hu
          rfl) (fun h => by cases h) (fun h => by cases h) (by omega) (by omega))
        have HE23 := hide (EW2.trans EW3)
        rw [hw3] at CC
        rw [hw3] at HE23
        have HW2 := hide hw2
        clear RX hrx RU hc0 hc1 hg3 EW3 EW2 hunit hmc MM hw3 hw2 hsz2 hcl hmz
        go_upto_region 12 with fail
        rw [← unhide HW2]
        clear hmx hmf
        go_wp2_with fail
        refine (unhide CC).mono ?_
        rintro e wb ⟨⟨u, rfl, own⟩, E2⟩
        have hgx0 := (unhide HE23).size
        obtain ⟨gx, cap, hu, hgx1, hgx2, hlc, hcm, hcell⟩ := row_open own (by omega)
        subst hu
        have hgx3 : wa.heap.size ≤ gx := by omega
        have hfz : ∀ j, wb.frozen? ⟨gx, j, none⟩ = false := fun j => by
          rcases own.2 with ⟨h, -⟩ | ⟨q, cp, cur, h, -, hh, -⟩
          · cases h
          · injection h with h
            simp only [Option.some.injEq, Addr.mk.injEq, and_true] at h
            subst h
            simp [World.frozen?, hh]
        have hrow : ∀ j, j < n + n → wb.cell? ⟨gx, j, none⟩ = some (.int .u8 (wideN n M x j : Int)) ∧ wb.frozen? ⟨gx, j, none⟩ = false := fun j hj => by
          refine ⟨?_, hfz j⟩
          rw [hcell j (by omega)]
          unfold wideN
          by_cases cc : j < n
          · rw [if_pos cc, List.getElem?_append_left (by simpa [nats] using cc), nats_get _ _ _ (by simpa using cc)]
            simp [cc]
          · have hj2 : j - n < n := by omega
            rw [if_neg cc, List.getElem?_append_right (by simp [nats]; omega)]
            rw [show (nats IntKind.u8 ((List.range n).map (M x))).length = n from by simp [nats], nats_get _ _ _ (by simpa using hj2)]
            simp [hj2]
        have EN := ((unhide HE23).trans E2).alloc (.cells #[.slice (some ⟨gx, 0, none⟩) (n + n) cap] 23)
        have HEN := hide EN
        have hrow2 : ∀ j, j < n + n → (wb.alloc (.cells #[.slice (some ⟨gx, 0, none⟩) (n + n) cap] 23)).cell? ⟨gx, j, none⟩ = some (.int .u8 (wideN n M x j : Int)) ∧ (wb.alloc (.cells #[.slice (some ⟨gx, 0, none⟩) (n + n) cap] 23)).frozen? ⟨gx, j, none⟩ = false := fun j hj => by
          have EE := (Ext.refl wb).alloc (.cells #[.slice (some ⟨gx, 0, none⟩) (n + n) cap] 23)
          exact ⟨(EE.cell (p := ⟨gx, j, none⟩) hgx2).trans (hrow j hj).1, (EE.frozen (p := ⟨gx, j, none⟩) hgx2).trans (hrow j hj).2⟩
        have HRW := hide hrow2
        have HRM := hide ((Roomy.own own).keep ((Ext.refl wb).alloc (.cells #[.slice (some ⟨gx, 0, none⟩) (n + n) cap] 23)))
        have HG2 := hide (show gx < (wb.alloc (.cells #[.slice (some ⟨gx, 0, none⟩) (n + n) cap] 23)).heap.size from by simp; omega)
        have HOW := hide ((unhide HB).keep EN).own
        have HBD := hide (show (x + 1) * 24 ≤ 140737488355328 ∧ x + 1 ≤ 9223372036854775807 by omega)
        have HBS := hide (show w1.heap.size ≤ (wb.alloc (.cells #[.slice (some ⟨gx, 0, none⟩) (n + n) cap] 23)).heap.size from ((unhide HB).ext.trans EN).size)
        have HONE := hide (show ([.slice (some ⟨gx, 0, none⟩) (n + n) cap] : List Value).all (fun u => u.oneCell') = true from by simp [Value.oneCell'])
        have HRN := hide (row_new wb #[.slice (some ⟨gx, 0, none⟩) (n + n) cap] 23 1 1 rfl)
        have HCAP := hide (show n + n ≤ cap ∧ cap ≤ 9223372036854775807 from ⟨hlc, by unfold maxLen at hcm; exact hcm⟩)
        have HGX := hide hgx3
        clear own hcell hfz hrow hrow2 EN E2 hcm hlc hgx2 hgx1 hgx0 hgx3 CC HE23 HW2
        obtain ⟨nn, hnn⟩ : ∃ nn, nn = n + n := ⟨_, rfl⟩
        have HNN := hide hnn
        rw [← hnn] at HB HRW HRM HG2 HOW HBS HONE HRN HCAP HEN ⊢
        clear hnn
        go_wp2_with (at_builtin; refine stop ?_)
        unfold Stop
        refine wpList_app_any rfl _ _ 22 (by rfl) 23 rowM w1.heap.size _ x _ (by rfl) (unhide HOW) (some ⟨wb.heap.size, 0, none⟩) 1 1 [.slice (some ⟨gx, 0, none⟩) nn cap] (by rfl) (unhide HRN) (unhide HONE) (unhide HBD) (unhide HBS) ?_
        intro v' w6 hown6 hg6 hat6
        have HBN := hide ((unhide HB).add (unhide HEN) (b := gx) (c := cap) (f := wideN n M x) (unhide HGX) (unhide HG2) (unhide HCAP) (unhide HRW) (unhide HRM) hown6 hg6 (by
          rcases hat6 with h | h
          · exact .inl h
          · exact .inr ⟨_, h, Nat.le_refl _⟩))
        have HBN2 := hide ((unhide HBN).congr (M' := wideN n M) fun i j hi hj => by
          by_cases c : i = x
          · subst c; rw [upf_same]
          · rw [upf_ne _ _ c])
        clear hown6 hg6 hat6 HBN
        go_wp2
        go_roundw
        case rel => exact ⟨x + 1, by omega, by go_num, _, _, by rw [← unhide HNN]; exact HBN2⟩
        case measure => simp [intOf]; omega
      · obtain rfl : n = x := by omega
        obtain ⟨g, cg, rfl, hcg, TB⟩ := (unhide HB).done (by omega) (wideN_lt (unhide HT).lt)
        have CR := hide (reduced_ok (some ⟨g, 0, none⟩) n cg n (n + n) _ _ _ _ wr TB.tab a1 (by omega) (by omega) (by omega) (fun _ _ => rfl) (by omega))
        have HE2 := hide ((unhide HE1).trans (unhide HB).ext)
        clear TB HB
        go_wp2_with fail
        refine (unhide CR).mono ?_
        rintro e w5 ⟨⟨g5, cg5, bl5, cp5, pv, ps, dd, R, rfl, hc5, hc5b, hdd, T5, -, hech⟩, E5⟩
        have HE5 := hide ((unhide HE2).trans E5)
        rw [wideN_m8] at hech
        have HINV := hide (Ech.inverse Wm.b8_two (unhide HDN) (unhide HDZ) hech)
        have HT5 := hide T5
        have HG0 := hide (Gr.start 5 23 w5 n n (fun _ => 0) (fun _ => 0) (fun i j => R i (n + j)) (by omega))
        clear T5 hech CR E5
        go_wp2
        go_loopw [60] (fun i wz => ∃ x : Nat, x ≤ n ∧ i = .int .i64 x ∧ ∃ bl cq : Nat → Nat, Hid (Gr 5 w5 wz w5.heap.size n x n bl cq (fun i j => R i (n + j)) (.slice none 0 0) 0 [])) (fun i _ => n - (intOf i).toNat)
        case atStart => exact ⟨0, Nat.zero_le _, rfl, _, _, HG0⟩
        case round =>
          obtain ⟨x, hx, rfl, bl, cq, HG⟩ := hrel
          by_cases hlt : x < n
          · obtain ⟨wa, hwa⟩ : ∃ wa, wa = wr := ⟨_, rfl⟩
            subst hwa
            have HT6 := hide ((unhide HT5).keep (unhide HG).ext)
            have hcx := (unhide HT6).hd x hlt
            have hcp := (unhide HT6).cap x hlt
            obtain ⟨nn, hnn⟩ : ∃ nn, nn = n + n := ⟨_, rfl⟩
            have RX : Row wa (some ⟨bl5 x, n, none⟩) n 1 (nats .u8 ((List.range n).map fun j => R x (n + j))) := ⟨by simp [nats], fun _ => ⟨_, _, rfl, (unhide HT6).b_hi x hlt, fun j hj => by
              rw [(unhide HT6).cell x (n + j) hlt (by omega), nats_get _ _ _ (by simpa using hj)]
              have hj' : j < n := by omega
              simp [hj']⟩⟩
            have CC := hide (clone_row (some ⟨bl5 x, n, none⟩) n (cp5 x - n) _ wa RX (fun u hu => by
              simp only [nats, List.mem_map] at hu
              obtain ⟨y, -, rfl⟩ := hu
              rfl) (by omega) (fun h => by cases h))
            have hsub : n + n - n = n := by omega
            clear RX
            rw [← hnn] at hcx hcp
            have hnn1 : n ≤ nn := by omega
            generalize cp5 x = cx at *
            generalize bl5 x = bx at *
            go_wp2_with fail
            refine (unhide CC).mono ?_
            rintro e wb ⟨⟨u, rfl, own⟩, E2⟩
            obtain ⟨bz, cz, hu, hbz, -⟩ := row_open own (by omega)
            subst hu
            obtain ⟨hp1, hp2⟩ := (unhide HG).place hlt E2.quietly
            have TG := (unhide HG).grow hlt (v' := .slice (some ⟨bz, 0, none⟩) n cz) (m' := n) (ys := (List.range n).map fun j => R x (n + j)) (own_lower own (unhide HG).ext.size) E2.quietly (.inr ⟨bz, rfl, hbz⟩)
            obtain ⟨b2, hb2, TC⟩ := TG.shut hlt (by omega) rfl (f := fun j => R x (n + j)) (fun j hj => by simp [List.getD_eq_getElem?_getD, hj])
            have HTC := hide (TC.congr (M' := fun i j => R i (n + j)) fun i j _ _ => by
              by_cases cc : i = x
              · subst cc; rw [upf_same]
              · rw [upf_ne _ _ cc])
            clear TG TC hb2 own E2 CC
            go_wp2
            go_roundw
            case rel => exact ⟨x + 1, by omega, by go_num, _, _, HTC⟩
            case measure => simp [intOf]; omega
          · obtain rfl : n = x := by omega
            have HE6 := hide ((unhide HE5).trans (unhide HG).ext)
            have HFin := hide ((unhide HG).done fun i j => (unhide HT5).lt i (n + j))
            have HSZ := hide (unhide HE5).size
            go_wp2
            go_ret2
            exact ⟨.inr ⟨unhide HD0, (unhide HCK).1, (unhide HCK).2, .inr ⟨_, unhide HDZ, unhide HDN, _, _, _, _, rfl, (unhide HFin).mono (unhide HSZ), unhide HINV⟩⟩, unhide HE6⟩
  · have HO := hide (fun (W : World) => show InvOut w W n ln M (.returned (.tuple #[.slice none 0 0, .int .i64 (detErr n ln)])) from .inl ⟨h0, rfl⟩)
    have hB : (detErr n ln != 0) = true := by rw [bne_iff_ne]; exact h0
    have HNE := hide h0
    go_enter Try.func10, Try.ntmps10
    go_wp2_with fail
    refine (unhide CD).mono ?_
    rintro e w1 ⟨ho, E1⟩
    have HE1 := hide E1
    clear CD E1
    rcases ho with ⟨-, rfl⟩ | ⟨h, -⟩
    · generalize detErr n ln = r at *
      go_wp2
      go_ret2
      exact ⟨unhide HO _, unhide HE1⟩
    · exact absurd h (unhide HNE)
--}
end Go.Proofs.Ytepkiicekcglhaa
