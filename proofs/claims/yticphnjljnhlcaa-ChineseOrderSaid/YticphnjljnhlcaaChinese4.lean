/-
  The walks of the laws ChineseBack, ChineseOne, ChineseOrder.
-/
import Derived.Test.YticphnjljnhlcaaChinese3
namespace Go.Proofs.Yticphnjljnhlcaa
open Go.RowKit Go.BigFrame

/-- What Join says of any system. -/
def JoinRes (n : Nat) (l : List (Int × Int)) (a b c : Int) : Prop :=
  (6 < n ∧ a = 0 ∧ b = 0 ∧ c = 2) ∨ (n ≤ 6 ∧ (¬ ∀ p ∈ l, RestOk p) ∧ a = 0 ∧ b = 0 ∧ c = 1) ∨ (n ≤ 6 ∧ (∀ p ∈ l, RestOk p) ∧ (¬ ∃ t, Wm.Fits t (natl l)) ∧ a = 0 ∧ b = 0 ∧ c = 4) ∨
    (n ≤ 6 ∧ (∀ p ∈ l, RestOk p) ∧ ∃ N M : Nat, Wm.Joined (natl l) N M ∧ M ≤ 1000000000000000000 ∧ a = N ∧ b = M ∧ c = 0)

set_option maxHeartbeats 1000000 in
theorem Join_err (A : Option Addr) (n c : Nat) (v : Int) (w : World) (hv : (v != 0) = true) (hc : ∀ w : World, Calls Try.prog 58 #[.slice A n c] w fun e w' => e = .returned (.int .i64 v) ∧ Ext w w') (w0 : World) :
    Calls Try.prog 34 #[.slice A n c] w0 fun e w' => e = .returned (.tuple #[.int .i64 0, .int .i64 0, .int .i64 v]) ∧ Ext w0 w' := by
  have HC := hide hc
  clear hc
  go_enter Try.func34, Try.ntmps34
  go_wp2_with fail
  refine (unhide HC _).mono ?_
  rintro e w' ⟨rfl, E0⟩
  go_wp2
  go_ret3
  exact ⟨rfl, E0⟩

set_option maxHeartbeats 1000000 in
theorem Join_err1 (A : Option Addr) (n c : Nat) (v : Int) (w : World) (hv : (v != 0) = true) (hc : Calls Try.prog 58 #[.slice A n c] w fun e w' => e = .returned (.int .i64 v) ∧ Ext w w') :
    Calls Try.prog 34 #[.slice A n c] w fun e w' => e = .returned (.tuple #[.int .i64 0, .int .i64 0, .int .i64 v]) ∧ Ext w w' := by
  have HC := hide hc
  clear hc
  go_enter Try.func34, Try.ntmps34
  go_wp2_with fail
  refine (unhide HC).mono ?_
  rintro e w' ⟨rfl, E0⟩
  go_wp2
  go_ret3
  exact ⟨rfl, E0⟩

theorem Join_any (A : Option Addr) (n c : Nat) (l : List (Int × Int)) (w : World) (R : Row w A n 2 (prs l)) (hn : (n : Int) ≤ 9223372036854775807) :
    Calls Try.prog 34 #[.slice A n c] w fun e w' => (∃ x y z : Int, JoinRes n l x y z ∧ e = .returned (.tuple #[.int .i64 x, .int .i64 y, .int .i64 z])) ∧ Ext w w' := by
  by_cases h6 : n ≤ 6
  · by_cases hall : ∀ p ∈ l, RestOk p
    · refine (cJoin_ok A n c l w R h6 hall).mono fun e w' ⟨hj, hx⟩ => ⟨?_, hx⟩
      rcases hj with ⟨N, M, h1, h2, h3⟩ | ⟨h1, h2⟩
      · exact ⟨N, M, 0, .inr (.inr (.inr ⟨h6, hall, N, M, h1, h2, rfl, rfl, rfl⟩)), h3⟩
      · exact ⟨0, 0, 4, .inr (.inr (.inl ⟨h6, hall, h1, rfl, rfl, rfl⟩)), h2⟩
    · exact (Join_err1 A n c 1 w rfl (cCheck_bad A n c l w R h6 hall)).mono fun e w' ⟨he, hx⟩ => ⟨⟨0, 0, 1, .inr (.inl ⟨h6, hall, rfl, rfl, rfl⟩), he⟩, hx⟩
  · exact (Join_err1 A n c 2 w rfl (cCheck_large A n c w (by omega) hn)).mono fun e w' ⟨he, hx⟩ => ⟨⟨0, 0, 2, .inl ⟨by omega, rfl, rfl, rfl⟩, he⟩, hx⟩

theorem joined_eg : Wm.Joined (natl [(2, 3), (3, 5)]) 8 15 := by
  have h1 := Wm.Joined.nil.step (k := 2) (R := 2) (M := 3) (by omega) (by decide) (by decide)
  have h2 := h1.step (k := 2) (R := 3) (M := 5) (by omega) (by decide) (by decide)
  exact h2

set_option maxHeartbeats 1000000 in
theorem joins_any (w : World) : Calls Try.prog 32 #[] w fun e w' => e = .returned (.bool true) ∧ Ext w w' := by
  have hc : ∀ w : World, Calls Try.prog 34 #[.slice (some ⟨w.heap.size, 0, none⟩) 2 2] (w.alloc (.cells #[.int .i64 2, .int .i64 3, .int .i64 3, .int .i64 5] 55)) fun e w' =>
      e = .returned (.tuple #[.int .i64 8, .int .i64 15, .int .i64 0]) ∧ Ext w w' := fun w => by
    refine (cJoin_ok _ 2 2 [(2, 3), (3, 5)] _ (row_new w #[.int .i64 2, .int .i64 3, .int .i64 3, .int .i64 5] 55 2 2 rfl) (by omega) ?_).mono ?_
    · intro p hp
      simp only [List.mem_cons, List.not_mem_nil, or_false] at hp
      rcases hp with rfl | rfl <;> (unfold RestOk; omega)
    · rintro e w' ⟨hj, hx⟩
      refine ⟨?_, ((Ext.refl w).alloc _).trans hx⟩
      rcases hj with ⟨N, M, h1, h2, h3⟩ | ⟨h1, h2⟩
      · obtain ⟨rfl, rfl⟩ := h1.unique joined_eg
        exact h3
      · exact absurd ⟨8, joined_eg.fits⟩ h1
  have HC := hide hc
  clear hc
  go_enter Try.func32, Try.ntmps32
  go_wp2_with fail
  refine (unhide HC _).mono ?_
  rintro e w' ⟨rfl, E0⟩
  go_wp2
  go_ret
  exact ⟨rfl, E0⟩

/-! ### ChineseBack -/
set_option maxRecDepth 100000 in
set_option maxHeartbeats 2000000 in
theorem Parts_bad (x : Int) (A : Option Addr) (n c : Nat) (l : List Int) (w : World) (R : Row w A n 1 (ints l)) (hn : (n : Int) ≤ 9223372036854775807) (h : ¬ (0 ≤ x ∧ n ≤ 6 ∧ ∀ m ∈ l, 1 ≤ m ∧ m ≤ 1000)) (hx : x ≤ 9223372036854775807) :
    Calls Try.prog 33 #[.int .i64 x, .slice A n c] w fun e w' => (∃ v : Int, e = .returned (.tuple #[.slice none 0 0, .int .i64 v]) ∧ (v != 0) = true) ∧ Ext w w' := by
  by_cases h0 : x < 0
  · clear h
    go_enter Try.func33, Try.ntmps33
    go_wp2
    go_ret2
    exact ⟨⟨_, rfl, by first | rfl | decide⟩, Ext.refl _⟩
  · by_cases h6 : 6 < n
    · clear h
      go_enter Try.func33, Try.ntmps33
      go_wp2
      go_ret2
      exact ⟨⟨_, rfl, by first | rfl | decide⟩, Ext.refl _⟩
    · have hno : ¬ ∀ m ∈ l, 1 ≤ m ∧ m ≤ 1000 := fun h' => h ⟨by omega, by omega, h'⟩
      obtain ⟨N, rfl⟩ := Int.eq_ofNat_of_zero_le (show 0 ≤ x by omega)
      have h66 : n ≤ 6 := by omega
      clear h h0 h6
      have hmk := make_run0 restI n (by omega) (by omega)
      have hown := World.ownsRow_made (base := w.heap.size) (e := 55) (size := 2) w (madeCells (Value.agg #[.int .i64 0, .int .i64 0]).cells (n * 2)) n (Nat.le_refl _) (by unfold maxLen; omega) (made_size _ _)
      have HL := hide R.num
      have HA := hide hno
      have HO := hide hown
      have HR := hide R
      clear hno hown R
      go_enter Try.func33, Try.ntmps33
      go_wp2
      go_loopw [6, 23] (fun v i wr => ∃ k : Nat, k ≤ n ∧ i = .int .i64 k ∧ wr.ownsRow w.heap.size 55 2 v k (prs (partsOf N (l.take k))) ∧ Hid (∀ j, j < k → 1 ≤ l.getD j 0 ∧ l.getD j 0 ≤ 1000) ∧ Ext w wr) (fun _ i _ => n - (intOf i).toNat)
      case atStart => exact ⟨0, by omega, rfl, unhide HO, hide (fun j h => absurd h (by omega)), (Ext.refl _).alloc _⟩
      case round =>
        clear hmk
        obtain ⟨k, hk, rfl, hown, hz, hext⟩ := hrel
        have HOW := hide hown
        clear hown
        by_cases hlt : k < n
        · obtain ⟨b, o, rfl, hb, c1⟩ := ((unhide HR).keep hext).int hlt
          by_cases hv : 1 ≤ l.getD k 0 ∧ l.getD k 0 ≤ 1000
          · have hcells : prs (partsOf N (l.take (k + 1))) = prs (partsOf N (l.take k)) ++ [.int .i64 ((N : Int) % l.getD k 0), .int .i64 (l.getD k 0)] := by
              rw [take_snoc l 0 (by rw [unhide HL]; exact hlt)]
              simp only [partsOf, List.map_append, ← prs_append]
              rfl
            have HC := hide hcells
            have hz' := hide (fun j (hj : j < k + 1) => (show 1 ≤ l.getD j 0 ∧ l.getD j 0 ≤ 1000 from by
              by_cases h' : j < k
              · exact unhide hz j h'
              · obtain rfl : j = k := by omega
                exact hv))
            clear hcells
            obtain ⟨v1, v2⟩ := hv
            generalize hm : l.getD k 0 = m at *
            have cm := hide (fun w : World => modulus_yes m w ⟨v1, v2⟩)
            have co := hide (fun w : World => of_ok (N : Int) m w v1 (by omega))
            have hbd : (k + 1) * 16 ≤ 140737488355328 ∧ k + 1 ≤ 9223372036854775807 := by omega
            clear hm
            go_wp2_with fail
            refine (unhide cm _).mono ?_
            rintro e w' ⟨rfl, rfl⟩
            go_wp2_with fail
            refine (unhide co _).mono ?_
            rintro e w' ⟨rfl, rfl⟩
            go_wp2_with (at_builtin; refine wpList_app rfl _ _ 47 (by rfl) 55 restI hext _ _ _ _ (by rfl) (unhide HOW) 1 1 (by rfl) rfl rfl hbd ?_)
            intro v' w' hown' hext' _
            have hown2 : w'.ownsRow w.heap.size 55 2 v' (k + 1) (prs (partsOf N (l.take (k + 1)))) := by rw [unhide HC]; exact hown'
            clear hown'
            go_wp2
            go_roundw
            case rel => exact ⟨k + 1, by omega, by go_num, hown2, hz', hext'⟩
            case measure => simp [intOf]; omega
          · generalize l.getD k 0 = m at *
            have cm := hide (fun w : World => modulus_no m w hv)
            clear hv
            go_wp2_with fail
            refine (unhide cm _).mono ?_
            rintro e w' ⟨rfl, rfl⟩
            go_wp2
            go_ret2
            exact ⟨⟨_, rfl, by first | rfl | decide⟩, hext⟩
        · exfalso
          have hkn : k = n := by omega
          refine unhide HA fun p hp => ?_
          obtain ⟨j, hj, rfl⟩ := List.getElem_of_mem hp
          have := unhide hz j (by have := unhide HL; omega)
          rw [List.getD_eq_getElem?_getD, List.getElem?_eq_getElem hj] at this
          exact this

theorem parts_ok {N : Nat} {l : List Int} (h : ∀ m ∈ l, 1 ≤ m ∧ m ≤ 1000) : ∀ p ∈ partsOf N l, RestOk p := by
  intro p hp
  obtain ⟨m, hm, rfl⟩ := List.mem_map.1 hp
  have := h m hm
  exact ⟨this, Int.emod_nonneg _ (by omega), Int.emod_lt_of_pos _ (by omega)⟩
theorem parts_fits {N : Nat} {l : List Int} (h : ∀ m ∈ l, 1 ≤ m ∧ m ≤ 1000) : Wm.Fits N (natl (partsOf N l)) := by
  intro p hp
  obtain ⟨q, hq, rfl⟩ := List.mem_map.1 hp
  obtain ⟨m, hm, rfl⟩ := List.mem_map.1 hq
  have := h m hm
  obtain ⟨M, rfl⟩ := Int.eq_ofNat_of_zero_le (show 0 ≤ m by omega)
  show N % (M : Int).toNat = ((N : Int) % (M : Int)).toNat
  rw [Int.toNat_natCast, ← Int.natCast_emod, Int.toNat_natCast]

set_option maxRecDepth 100000 in
set_option maxHeartbeats 2000000 in
theorem cback_any (x : Int) (A : Option Addr) (n c : Nat) (l : List Int) (hx : -9223372036854775808 ≤ x ∧ x ≤ 9223372036854775807) (w : World) (S : SliceIn w A n c 1 8 (ints l)) (_hb : ∀ x ∈ l, -9223372036854775808 ≤ x ∧ x ≤ 9223372036854775807) :
    Calls Try.prog 10 #[.int .i64 x, .slice A n c] w fun e w' => e = .returned (.bool true) ∧ Ext w w' := by
  obtain ⟨R, hnc, -, hcm, -⟩ := S
  have hn : (n : Int) ≤ 9223372036854775807 := by omega
  clear hcm hnc
  by_cases h : 0 ≤ x ∧ n ≤ 6 ∧ ∀ m ∈ l, 1 ≤ m ∧ m ≤ 1000
  · obtain ⟨h0, h6, hall⟩ := h
    obtain ⟨N, rfl⟩ := Int.eq_ofNat_of_zero_le h0
    have c1 := hide (fun w (R : Row w A n 1 (ints l)) => Parts_ok N A n c l w hx.2 R h6 hall)
    have c2 := hide (fun A' c' w (R : Row w A' n 2 (prs (partsOf N l))) => cJoin_ok A' n c' (partsOf N l) w R h6 (parts_ok hall))
    have hf := parts_fits (N := N) hall
    have HF := hide hf
    have HR := hide R
    clear hall hf R
    go_enter Try.func10, Try.ntmps10
    go_wp2_with fail
    refine (joins_any _).mono ?_
    rintro e w' ⟨rfl, E0⟩
    go_wp2_with fail
    refine (unhide c1 _ ((unhide HR).keep E0)).mono ?_
    rintro e w' ⟨⟨v, rfl, hown⟩, E1⟩
    obtain ⟨A', c', rfl, R', -⟩ := row_of_own hown
    have HR' := hide R'
    have EE := E0.trans E1
    clear E0 E1 hown R'
    go_wp2_with fail
    refine (unhide c2 A' c' _ (unhide HR')).mono ?_
    rintro e w2 ⟨hj, E2⟩
    have EF := EE.trans E2
    clear EE E2 HR'
    rcases hj with ⟨X, M, hJ, hM, rfl⟩ | ⟨hno, -⟩
    · have hm0 := hJ.pos
      have hxm : (N : Int) % (M : Int) = (X : Int) := by rw [← (hJ.2 N).1 (unhide HF)]; rfl
      clear hJ
      go_wp2
      go_ret
      exact ⟨rfl, EF⟩
    · exact absurd ⟨N, unhide HF⟩ hno
  · have c1 := hide (fun w (R : Row w A n 1 (ints l)) => Parts_bad x A n c l w R hn h hx.2)
    have HR := hide R
    clear h R
    go_enter Try.func10, Try.ntmps10
    go_wp2_with fail
    refine (joins_any _).mono ?_
    rintro e w' ⟨rfl, E0⟩
    go_wp2_with fail
    refine (unhide c1 _ ((unhide HR).keep E0)).mono ?_
    rintro e w' ⟨⟨v, rfl, hv⟩, E1⟩
    have EE := E0.trans E1
    clear E0 E1
    go_wp2
    go_ret
    exact ⟨rfl, EE⟩

end Go.Proofs.Yticphnjljnhlcaa
