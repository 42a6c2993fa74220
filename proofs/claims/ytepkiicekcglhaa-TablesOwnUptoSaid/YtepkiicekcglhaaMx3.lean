/-
  The contract of matrix.reduced.
-/
import Derived.Test.YtepkiicekcglhaaMx2
set_option linter.unusedVariables false
set_option linter.unusedSimpArgs false
namespace Wm
theorem m8m_at (M : Nat → Nat → Nat) (i j : Nat) : m8m M i j = m8 (M i j) := rfl
theorem m8_z {x : Nat} (hx : x < 256) : m8 x = (Fld.z : B8) ↔ x = 0 := by
  constructor
  · intro h
    have := congrArg Subtype.val h
    rw [m8_val hx] at this
    exact this
  · rintro rfl; rfl
theorem m8_o : m8 1 = (Fld.o : B8) := rfl
theorem m8_ml {x y : Nat} (hx : x < 256) (hy : y < 256) : m8 (fmul x y) = Fld.ml (m8 x) (m8 y) := by
  apply Subtype.ext
  show fmul x y % 256 = fmul (x % 256) (y % 256)
  rw [Nat.mod_eq_of_lt hx, Nat.mod_eq_of_lt hy, Nat.mod_eq_of_lt (fmul_lt hx hy)]
theorem m8_ad {x y : Nat} (hx : x < 256) (hy : y < 256) : m8 (x ^^^ y) = Fld.ad (m8 x) (m8 y) := by
  apply Subtype.ext
  show (x ^^^ y) % 256 = (x % 256) ^^^ (y % 256)
  rw [Nat.mod_eq_of_lt hx, Nat.mod_eq_of_lt hy, Nat.mod_eq_of_lt (xor_lt hx hy)]
theorem m8_iv {x : Nat} (hx : x < 256) : m8 (fpow x 254) = Fld.iv (m8 x) := by
  apply Subtype.ext
  show fpow x 254 % 256 = fpow (x % 256) 254
  rw [Nat.mod_eq_of_lt hx, Nat.mod_eq_of_lt (fpow_lt hx _)]
theorem b8_two (a : B8) : Fld.ad a a = Fld.z := Subtype.ext (Nat.xor_self _)

/-- The steps of one column, as numbers: the rows exchanged, the pivot's row scaled, the other rows cleared, the first i of them. -/
def swN (M : Nat → Nat → Nat) (r k : Nat) : Nat → Nat → Nat := fun i => M (Fld.swp r k i)
def scN (M : Nat → Nat → Nat) (r v j0 : Nat) : Nat → Nat → Nat := fun i j => if i = r ∧ j < j0 then fmul (M i j) v else M i j
def elN (M : Nat → Nat → Nat) (r c t j0 : Nat) : Nat → Nat → Nat := fun i j =>
  if i ≠ r ∧ (i < t ∨ (i = t ∧ j < j0)) then M i j ^^^ fmul (M r j) (M i c) else M i j
theorem scN_lt {M : Nat → Nat → Nat} (hM : ∀ i j, M i j < 256) {v : Nat} (hv : v < 256) (r j0 i j : Nat) : scN M r v j0 i j < 256 := by
  unfold scN; split
  · exact fmul_lt (hM i j) hv
  · exact hM i j
theorem elN_lt {M : Nat → Nat → Nat} (hM : ∀ i j, M i j < 256) (r c t j0 i j : Nat) : elN M r c t j0 i j < 256 := by
  unfold elN; split
  · exact xor_lt (hM i j) (fmul_lt (hM r j) (hM i c))
  · exact hM i j
theorem scN_next (M : Nat → Nat → Nat) (r v j : Nat) (i' j' : Nat) : (if i' = r ∧ j' = j then fmul (M r j) v else scN M r v j i' j') = scN M r v (j + 1) i' j' := by
  unfold scN
  by_cases a : i' = r
  · by_cases b : j' = j
    · subst a; subst b; rw [if_pos ⟨rfl, rfl⟩, if_pos ⟨rfl, Nat.lt_succ_self _⟩]
    · rw [if_neg (fun h => b h.2)]
      by_cases c : j' < j
      · rw [if_pos ⟨a, c⟩, if_pos ⟨a, show j' < j + 1 by omega⟩]
      · rw [if_neg (fun h => c h.2), if_neg (fun h => by have := h.2; omega)]
  · rw [if_neg (fun h => a h.1), if_neg (fun h => a h.1), if_neg (fun h => a h.1)]
theorem scN_cur (M : Nat → Nat → Nat) (r v j : Nat) : scN M r v j r j = M r j := by
  unfold scN; rw [if_neg (fun h => by have := h.2; omega)]
theorem scN_zero (M : Nat → Nat → Nat) (r v : Nat) : scN M r v 0 = M := by
  funext i j; unfold scN; rw [if_neg (fun h => by have := h.2; omega)]
theorem elN_zero (M : Nat → Nat → Nat) (r c : Nat) : elN M r c 0 0 = M := by
  funext i j; unfold elN; rw [if_neg (fun h => by have := h.2; omega)]
theorem elN_at (M : Nat → Nat → Nat) (r c t j0 j : Nat) : elN M r c t j0 r j = M r j := by
  unfold elN; rw [if_neg (fun h => h.1 rfl)]
theorem elN_cur (M : Nat → Nat → Nat) (r c t j : Nat) : elN M r c t j t j = M t j := by
  unfold elN; rw [if_neg (fun h => by have := h.2; omega)]
theorem elN_row (M : Nat → Nat → Nat) (r c t j : Nat) : elN M r c t 0 t j = M t j := by
  unfold elN; rw [if_neg (fun h => by have := h.2; omega)]
theorem elN_next (M : Nat → Nat → Nat) {r c t j : Nat} (h : t ≠ r) (i' j' : Nat) : (if i' = t ∧ j' = j then M t j ^^^ fmul (M r j) (M t c) else elN M r c t j i' j') = elN M r c t (j + 1) i' j' := by
  unfold elN
  by_cases a : i' = t
  · by_cases b : j' = j
    · subst a; subst b; rw [if_pos ⟨rfl, rfl⟩, if_pos ⟨h, .inr ⟨rfl, Nat.lt_succ_self _⟩⟩]
    · rw [if_neg (fun h => b h.2)]
      by_cases d : i' ≠ r ∧ (i' < t ∨ i' = t ∧ j' < j)
      · rw [if_pos d, if_pos ⟨d.1, by omega⟩]
      · rw [if_neg d, if_neg (fun e => d ⟨e.1, by omega⟩)]
  · rw [if_neg (fun h => a h.1)]
    by_cases d : i' ≠ r ∧ (i' < t ∨ i' = t ∧ j' < j)
    · rw [if_pos d, if_pos ⟨d.1, by omega⟩]
    · rw [if_neg d, if_neg (fun e => d ⟨e.1, by omega⟩)]
theorem elN_done (M : Nat → Nat → Nat) {r c t l : Nat} (i' j' : Nat) (hj : j' < l) : elN M r c t l i' j' = elN M r c (t + 1) 0 i' j' := by
  unfold elN
  by_cases d : i' ≠ r ∧ (i' < t ∨ i' = t ∧ j' < l)
  · rw [if_pos d, if_pos ⟨d.1, by omega⟩]
  · rw [if_neg d, if_neg (fun e => d ⟨e.1, by omega⟩)]
theorem elN_skip (M : Nat → Nat → Nat) (hM : ∀ i j, M i j < 256) {r c t : Nat} (h : t = r ∨ M t c = 0) (i' j' : Nat) : elN M r c t 0 i' j' = elN M r c (t + 1) 0 i' j' := by
  unfold elN
  by_cases a : i' = t
  · subst a
    rw [if_neg (fun e => by have := e.2; omega)]
    by_cases d : i' = r
    · rw [if_neg (fun e => e.1 d)]
    · rcases h with h | h
      · exact absurd h d
      · rw [if_pos ⟨d, .inl (Nat.lt_succ_self _)⟩, h, fmul_zero (hM r j'), Nat.xor_zero]
  · by_cases d : i' ≠ r ∧ (i' < t ∨ i' = t ∧ j' < 0)
    · rw [if_pos d, if_pos ⟨d.1, by omega⟩]
    · rw [if_neg d, if_neg (fun e => d ⟨e.1, by omega⟩)]
def scF (M : Nat → Nat → Nat) (r v : Nat) : Nat → Nat → Nat := fun i j => if i = r then fmul (M i j) v else M i j
theorem scF_lt {M : Nat → Nat → Nat} (hM : ∀ i j, M i j < 256) {v : Nat} (hv : v < 256) (r i j : Nat) : scF M r v i j < 256 := by
  unfold scF; split
  · exact fmul_lt (hM i j) hv
  · exact hM i j
theorem scN_full (M : Nat → Nat → Nat) (r v : Nat) {l : Nat} (i j : Nat) (hj : j < l) : scN M r v l i j = scF M r v i j := by
  unfold scN scF
  by_cases a : i = r
  · rw [if_pos ⟨a, hj⟩, if_pos a]
  · rw [if_neg (fun h => a h.1), if_neg a]
/-- All the steps, as they are over the field. -/
theorem stepF {M : Nat → Nat → Nat} (hM : ∀ i j, M i j < 256) (r k c n : Nat) :
    m8m (elN (scF (swN M r k) r (fpow (M k c) 254)) r c n 0) = Fld.stepM (m8m M) r k c n := by
  funext i j
  have hx := hM k c
  have hsw : ∀ i j, swN M r k i j < 256 := fun i j => hM _ j
  have hsc := fun i j => scF_lt hsw (fpow_lt hx 254) r i j
  have e2 : ∀ i j, m8 (scF (swN M r k) r (fpow (M k c) 254) i j) = Fld.scl (fun i => m8m M (Fld.swp r k i)) r (Fld.iv (m8m M k c)) i j := fun i j => by
    unfold scF Fld.scl
    by_cases a : i = r
    · rw [if_pos a, if_pos a, m8_ml (hsw i j) (fpow_lt hx _), m8_iv hx]; rfl
    · rw [if_neg a, if_neg a]; rfl
  show m8 (elN (scF (swN M r k) r (fpow (M k c) 254)) r c n 0 i j) = Fld.elm (Fld.scl (fun i => m8m M (Fld.swp r k i)) r (Fld.iv (m8m M k c))) r (fun i => if i = r then Fld.z else Fld.scl (fun i => m8m M (Fld.swp r k i)) r (Fld.iv (m8m M k c)) i c) n i j
  unfold elN Fld.elm
  dsimp only
  by_cases hi : i < n
  · rw [if_pos hi]
    by_cases a : i = r
    · rw [if_neg (fun h => h.1 a), if_pos a, Fld.ml_z, Fld.ad_z, e2 i j]
    · rw [if_pos ⟨a, .inl hi⟩, if_neg a, m8_ad (hsc i j) (fmul_lt (hsc r j) (hsc i c)), m8_ml (hsc r j) (hsc i c), e2 i j, e2 r j, e2 i c]
  · rw [if_neg hi, if_neg (fun h => by have := h.2; omega), e2 i j]
end Wm
namespace Go.Proofs.Ytepkiicekcglhaa
open Go.RowKit Go.BigFrame


set_option maxRecDepth 100000 in
set_option maxHeartbeats 1000000 in
theorem clone_row (A : Option Addr) (n c : Nat) (xs : List Value) (w : World) (R : Row w A n 1 xs) (h1 : ∀ u ∈ xs, u.oneCell' = true) (hb : n * 1 ≤ 140737488355328) (hnil : A = none → n = 0 ∧ c = 0) :
    Calls Try.prog 8 #[.slice A n c] w fun e w' => (∃ v, e = .returned v ∧ w'.ownsRow w.heap.size 5 1 v n xs) ∧ Ext w w' := by
  have hi0 : (Try.prog.info? 5).map (fun i => (i.zero, i.size, i.bytes)) = some (some (.int .u8 0), 1, 1) := by kernel_rfl
  obtain ⟨i0, hi, hz0, hz1, hz2⟩ := info_parts hi0
  cases A with
  | none =>
    obtain ⟨rfl, rfl⟩ := hnil rfl
    obtain rfl := R.empty
    have heq := fun w : World => Lib.run_eql_slice_nil w 23 5 none 0 0 0 0 Try.underlying23
    go_enter Try.func8, Try.ntmps8
    go_wp2
    go_ret
    exact ⟨⟨_, rfl, World.ownsRow_nil _ _ _ _⟩, Ext.refl _⟩
  | some ad =>
    have heq := fun w : World => Lib.run_eql_slice_nil w 23 5 (some ad) n c 0 0 Try.underlying23
    have hr := R.2
    have hl := R.1
    have hown := World.ownsRow_lit (base := w.heap.size) (e := 5) (size := 1) w #[] 0 (Nat.le_refl _) (by unfold maxLen; omega) rfl
    have HR := hide hr
    have HL := hide hl
    clear R hnil hr hl
    go_enter Try.func8, Try.ntmps8
    go_wp2_with (at_builtin; refine wpList_append_own _ rfl _ _ 23 rfl w.heap.size 5 i0 (.int .u8 0) 1 1 Try.underlying23 hi hz0 hz1 hz2 rfl (by decide) _ _ _ rfl hown ad n c xs rfl (unhide HL) ?c1 h1 (by unfold maxLen; omega) (by omega) (by simp) ?_)
    case c1 =>
      intro j u hj
      have hjn : j < n * 1 := by
        have := (List.getElem?_eq_some_iff.1 hj).1
        have := unhide HL
        omega
      obtain ⟨b, o, e, hb, hc⟩ := unhide HR (by omega)
      injection e with e
      subst e
      have hj' := (hc j hjn).trans hj
      have : (⟨b, o, none⟩ : Addr).add j = ⟨b, o + j, none⟩ := by
        unfold Addr.add
        split
        · rename_i h0; simp [h0]
        · rfl
      rw [this]
      exact (World.cell?_alloc_lt _ _ _ hb).trans hj'
    intro v' w' hown' hgrow _
    have hown2 : w'.ownsRow w.heap.size 5 1 v' n xs := by simpa using hown'
    have E1 : Ext w w' := ((Ext.refl w).alloc _).grown hgrow (fun q hq => by simp [Value.ownBlock] at hq; omega)
    clear hgrow
    go_wp2
    go_ret
    exact ⟨⟨_, rfl, hown2⟩, E1⟩

theorem intM : EInfo Try.prog 52 3 (.int .i64 0) 1 8 := EInfo.mk_ Try.underlying52 (by kernel_rfl) rfl (by omega)

/-- The table on the way, and the pivots. -/
structure RS (w0 W : World) (g n l : Nat) (bl cp : Nat → Nat) (M : Nat → Nat → Nat) (v : Value) (pv : List Nat) : Prop where
  ext : Ext w0 W
  tb : Tb W w0.heap.size g n bl cp l M
  piv : W.ownsRow w0.heap.size 3 1 v pv.length (nats .i64 pv)
  off_g : v.ownBlock ≠ some g
  off_b : ∀ i, i < n → v.ownBlock ≠ some (bl i)
section
variable {w0 W W' : World} {g n l : Nat} {bl cp : Nat → Nat} {M : Nat → Nat → Nat} {v : Value} {pv : List Nat}
theorem RS.keep (T : RS w0 W g n l bl cp M v pv) (E : Ext W W') : RS w0 W' g n l bl cp M v pv := ⟨T.ext.trans E, T.tb.keep E, row_ext T.piv E, T.off_g, T.off_b⟩
theorem own_far {w : World} {base e sz n b : Nat} {v : Value} {xs : List Value} (h : w.ownsRow base e sz v n xs) (hb : v.ownBlock ≠ some b) (o : Nat) (u : Value) : (w.setCell ⟨b, o, none⟩ u).ownsRow base e sz v n xs := by
  obtain ⟨h1, h2⟩ := h
  refine ⟨h1, ?_⟩
  rcases h2 with h2 | ⟨q, cap, cur, rfl, hq, hh, r⟩
  · exact .inl h2
  · refine .inr ⟨q, cap, cur, rfl, hq, ?_, r⟩
    have hqb : ¬ b = q := fun e => hb (by rw [e]; rfl)
    rw [← hh]
    simp only [World.setCell]
    rw [Array.getElem?_modify, if_neg hqb]
theorem RS.set (T : RS w0 W g n l bl cp M v pv) {i j x : Nat} (hi : i < n) (hj : j < l) (hx : x < 256) : RS w0 (W.setCell ⟨bl i, j, none⟩ (.int .u8 (x : Int))) g n l bl cp (up2 M i j x) v pv :=
  ⟨T.ext.setCell (T.tb.b_lo i hi) _, T.tb.set hi hj hx, own_far T.piv (T.off_b i hi) _ _, T.off_g, T.off_b⟩
theorem RS.swap (T : RS w0 W g n l bl cp M v pv) {p q : Nat} (hp : p < n) (hq : q < n) :
    RS w0 ((W.setCell ⟨g, p, none⟩ (.slice (some ⟨bl q, 0, none⟩) l (cp q))).setCell ⟨g, q, none⟩ (.slice (some ⟨bl p, 0, none⟩) l (cp p))) g n l (fun i => bl (sw2 p q i)) (fun i => cp (sw2 p q i)) (fun i => M (sw2 p q i)) v pv :=
  ⟨(T.ext.setCell T.tb.g_lo _).setCell T.tb.g_lo _, T.tb.swap hp hq, own_far (own_far T.piv T.off_g _ _) T.off_g _ _, T.off_g, fun i hi => T.off_b _ (sw2_lt hp hq hi)⟩
theorem RS.more (T : RS w0 W g n l bl cp M v pv) {v' : Value} {c : Nat} (hown : W'.ownsRow w0.heap.size 3 1 v' (pv.length + 1) (nats .i64 pv ++ [.int .i64 (c : Int)])) (hg : W.grownBy W' v.ownBlock)
    (hat : v'.ownBlock = v.ownBlock ∨ ∃ q, v'.ownBlock = some q ∧ W.heap.size ≤ q) : RS w0 W' g n l bl cp M v' (pv ++ [c]) := by
  refine ⟨T.ext.grown hg fun q hq => (T.piv.lt q hq).1, T.tb.grown hg T.off_g T.off_b, ?_, ?_, fun i hi => ?_⟩
  · rw [List.length_append, ← nats_append]; exact hown
  · rcases hat with h | ⟨q, h, hq⟩
    · rw [h]; exact T.off_g
    · rw [h]; intro e; injection e with e; have := T.tb.g_hi; omega
  · rcases hat with h | ⟨q, h, hq⟩
    · rw [h]; exact T.off_b i hi
    · rw [h]; intro e; injection e with e; have := T.tb.b_hi i hi; omega
theorem RS.congr (T : RS w0 W g n l bl cp M v pv) {M' : Nat → Nat → Nat} (h : ∀ i j, i < n → j < l → M i j = M' i j) (hlt : ∀ i j, M' i j < 256) : RS w0 W g n l bl cp M' v pv := { T with tb := T.tb.congr h hlt }
/-- The table's rows from r on. -/
theorem Tb.from_ {base : Nat} (T : Tb W base g n bl cp l M) (r : Nat) : Tab W (some ⟨g, r, none⟩) (n - r) (fun i => some ⟨bl (r + i), 0, none⟩) (fun _ => l) (fun i => cp (r + i)) (fun i => M (r + i)) where
  hd _ := ⟨g, r, rfl, T.g_hi, fun i hi => T.hd (r + i) (by omega)⟩
  row i hi _ := ⟨bl (r + i), 0, rfl, T.b_hi _ (by omega), fun j hj => by rw [Nat.zero_add]; exact T.cell (r + i) j (by omega) hj⟩
  cap i hi := T.cap _ (by omega)
  lt i j := T.lt _ j
end
set_option maxRecDepth 100000 in
set_option maxHeartbeats 1000000 in
theorem red_index (A : Option Addr) (n c : Nat) (ra : Nat → Option Addr) (ln cp : Nat → Nat) (M : Nat → Nat → Nat) (bx : Nat) (w : World) (T : Tab w A n ra ln cp M) (p : Nat → Bool)
    (hp : ∀ k, k < n → ∀ W, Ext w W → Calls Try.prog 45 (#[.slice (ra k) (ln k) (cp k)] ++ #[.pointer (some ⟨bx, 0, none⟩)]) W fun e w' => e = .returned (.bool (p k)) ∧ Ext W w') (hm : n ≤ 4611686018427387904) :
    Calls Try.prog 44 #[.slice A n c, .func (.func 45) #[] #[.pointer (some ⟨bx, 0, none⟩)]] w fun e w' => (∃ r : Int, e = .returned (.int .i64 r) ∧ ((r = -1 ∧ ∀ i, i < n → p i = false) ∨ ∃ k : Nat, k < n ∧ r = k ∧ p k = true ∧ ∀ i, i < k → p i = false)) ∧ Ext w w' := by
  have HP := hide hp
  have HT := hide T
  clear hp T
  go_enter Try.func44, Try.ntmps44
  go_wp2
  go_loopw [8] (fun i wr => ∃ k : Nat, k ≤ n ∧ i = .int .i64 k ∧ Hid (∀ j, j < k → p j = false) ∧ Ext w wr) (fun i _ => n - (intOf i).toNat)
  case atStart => exact ⟨0, by omega, rfl, hide (fun j h => absurd h (by omega)), Ext.refl _⟩
  case round =>
    obtain ⟨k, hk, rfl, hz, hext⟩ := hrel
    by_cases hlt : k < n
    · obtain ⟨b, o, rfl, hb, cc⟩ := ((unhide HT).keep hext).hd (by omega)
      have c1 := cc k hlt
      clear cc
      have hpk := unhide HP k hlt
      have hzk := hide (fun (h : p k = false) j (hj : j < k + 1) => (show p j = false from by
        by_cases h' : j < k
        · exact unhide hz j h'
        · obtain rfl : j = k := by omega
          exact h))
      obtain ⟨q, hq⟩ : ∃ q, q = p k := ⟨_, rfl⟩
      rw [← hq] at hpk hzk
      have HQP := hide hq
      clear hq
      generalize ra k = r0 at *
      generalize ln k = l0 at *
      generalize cp k = c0 at *
      have HQ := hide hpk
      clear hpk
      cases q with
      | false =>
        have hz2 := hide (unhide hzk rfl)
        clear hzk
        go_wp2_with (go_at_call 45; refine (unhide HQ _ hext).mono ?_; rintro e w' ⟨rfl, E1⟩)
        go_roundw
        case rel => exact ⟨k + 1, by omega, by go_num, hz2, hext.trans E1⟩
        case measure => simp [intOf]; omega
      | true =>
        clear hzk
        go_wp2_with (go_at_call 45; refine (unhide HQ _ hext).mono ?_; rintro e w' ⟨rfl, E1⟩)
        go_ret
        exact ⟨⟨_, rfl, .inr ⟨k, hlt, rfl, (unhide HQP).symm, unhide hz⟩⟩, hext.trans E1⟩
    · obtain rfl : n = k := by omega
      go_wp2
      go_ret
      exact ⟨⟨_, rfl, .inl ⟨rfl, unhide hz⟩⟩, hext⟩


set_option maxRecDepth 100000 in
theorem closure_red (W : World) (b o l cap bx c x : Nat) (hc : W.cell? ⟨bx, 0, none⟩ = some (.int .i64 (c : Int))) (hx : W.cell? ⟨b, o + c, none⟩ = some (.int .u8 (x : Int))) (hcl : c < l) :
    Calls Try.prog 45 #[.slice (some ⟨b, o, none⟩) l cap, .pointer (some ⟨bx, 0, none⟩)] W fun e w' => e = .returned (.bool (decide (x ≠ 0))) ∧ Ext W w' := by
  by_cases h0 : x = 0
  · subst h0
    go_enter Try.func45, Try.ntmps45
    go_wp2
    go_ret
    exact ⟨rfl, Ext.refl _⟩
  · have hB : ((x : Int) != 0) = true := by rw [bne_iff_ne]; omega
    rw [show decide (x ≠ 0) = true from decide_eq_true h0]
    clear h0
    go_enter Try.func45, Try.ntmps45
    go_wp2
    go_ret
    exact ⟨rfl, Ext.refl _⟩
end Go.Proofs.Ytepkiicekcglhaa
