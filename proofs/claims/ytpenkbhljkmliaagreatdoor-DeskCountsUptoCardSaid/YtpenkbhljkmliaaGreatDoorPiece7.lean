/-
  piece.Split at whatever it is given; the contract of piece.Check.
-/
import Derived.Test.YtpenkbhljkmliaaGreatDoorPiece6
import Derived.Deep.RegionLaw
import Derived.Deep.RegionHeld3
set_option linter.unusedVariables false
set_option linter.unusedSimpArgs false
namespace Go.Proofs.YtpenkbhljkmliaaGreatDoor
open Go.RowKit Go.BigFrame

theorem str_inj8 {a b : ByteArray} (h : a.toList = b.toList) : a = b := by
  rw [ByteArray.toList_eq, ByteArray.toList_eq] at h
  cases a; cases b
  simpa using h

set_option maxRecDepth 100000 in
set_option maxHeartbeats 4000000 in
/-- Why a string is not split. -/
def splErr (s : ByteArray) (k n : Int) : Int := if ¬ (1 ≤ k ∧ k ≤ n ∧ n ≤ 10) then 1 else if 60 < s.size then 2 else 0
set_option maxRecDepth 100000 in
theorem Split_bad (s : ByteArray) (k n : Int) (w : World) (hss : (s.size : Int) ≤ 9223372036854775807) (hb : splErr s k n ≠ 0) :
    Calls Tryz.prog 89 #[.string s, .int .i64 k, .int .i64 n] w fun e w' => e = .returned (.tuple #[.slice none 0 0, .int .i64 (splErr s k n)]) ∧ w' = w := by
  have CR := hide (right_any k n w)
  by_cases hr : 1 ≤ k ∧ k ≤ n ∧ n ≤ 10
  · have h2 : 60 < s.size := by
      unfold splErr at hb
      rw [if_neg (by simpa using hr)] at hb
      by_cases h : 60 < s.size
      · exact h
      · rw [if_neg h] at hb; exact absurd rfl hb
    rw [show decide (1 ≤ k ∧ k ≤ n ∧ n ≤ 10) = true from decide_eq_true hr] at CR
    have hE := hide (show splErr s k n = 2 from by unfold splErr; rw [if_neg (by simpa using hr), if_pos h2])
    have h2I : (60 : Int) < (s.size : Int) := by omega
    clear hb hr
    rw [unhide hE]
    go_enter Tryz.func89, Tryz.ntmps89
    go_wp2_with fail
    refine (unhide CR).mono ?_
    rintro e w1 ⟨rfl, rfl⟩
    go_wp2
    go_ret2
    exact ⟨rfl, rfl⟩
  · rw [show decide (1 ≤ k ∧ k ≤ n ∧ n ≤ 10) = false from decide_eq_false hr] at CR
    have hE : splErr s k n = 1 := by unfold splErr; rw [if_pos hr]
    rw [hE]
    clear hb hr hE
    go_enter Tryz.func89, Tryz.ntmps89
    go_wp2_with fail
    refine (unhide CR).mono ?_
    rintro e w1 ⟨rfl, rfl⟩
    go_wp2
    go_ret2
    exact ⟨rfl, rfl⟩

/-- What Split answers. -/
def SplitOut (s : ByteArray) (k n : Int) (w w' : World) (e : Ending) : Prop :=
  (splErr s k n ≠ 0 ∧ e = .returned (.tuple #[.slice none 0 0, .int .i64 (splErr s k n)])) ∨
  (splErr s k n = 0 ∧ ∃ (k' n' g : Nat), k = k' ∧ n = n' ∧ 1 ≤ k' ∧ k' ≤ n' ∧ n' ≤ 10 ∧ s.size ≤ 60 ∧ e = .returned (.tuple #[.slice (some ⟨g, 0, none⟩) n' n', .int .i64 0]) ∧ Made w' w.heap.size 9 1 (.slice (some ⟨g, 0, none⟩) n' n') n' (strs (splitL s k' n')))
theorem Split_any (s : ByteArray) (k n : Int) (w : World) (hss : (s.size : Int) ≤ 9223372036854775807) :
    Calls Tryz.prog 89 #[.string s, .int .i64 k, .int .i64 n] w fun e w' => SplitOut s k n w w' e ∧ Ext w w' := by
  by_cases hp : splErr s k n = 0
  · have hp' := hp
    unfold splErr at hp'
    by_cases hr : 1 ≤ k ∧ k ≤ n ∧ n ≤ 10
    · rw [if_neg (by simpa using hr)] at hp'
      by_cases h : 60 < s.size
      · rw [if_pos h] at hp'; omega
      · obtain ⟨k', rfl⟩ : ∃ k' : Nat, k = k' := ⟨k.toNat, by omega⟩
        obtain ⟨n', rfl⟩ : ∃ n' : Nat, n = n' := ⟨n.toNat, by omega⟩
        refine (Split_ok s k' n' w (by omega) (by omega) (by omega) (by omega)).mono ?_
        rintro e w' ⟨⟨g, he, M⟩, E⟩
        exact ⟨.inr ⟨hp, k', n', g, rfl, rfl, by omega, by omega, by omega, by omega, he, M⟩, E⟩
    · rw [if_pos hr] at hp'; omega
  · refine (Split_bad s k n w hss hp).mono ?_
    rintro e w' ⟨he, rfl⟩
    exact ⟨.inl ⟨hp, he⟩, Ext.refl _⟩

theorem sby_extract (s : ByteArray) (a b k : Nat) (hb : b ≤ s.size) (h : a + k < b) : sby (s.extract a b) k = sby s (a + k) := by
  unfold sby
  rw [Array.getD_eq_getD_getElem?, Array.getD_eq_getD_getElem?]
  have : (s.extract a b).data = s.data.extract a b := ByteArray.data_extract
  rw [this, Array.getElem?_extract, if_pos (by have : s.data.size = s.size := rfl; omega)]
theorem last_iff (s : ByteArray) (h : 5 ≤ s.size) : (s.extract (s.size - 4) s.size = strN (le4 (sumS (sby s) (s.size - 4)))) ↔ sumOk s := by
  have hl : (le4 (sumS (sby s) (s.size - 4))).length = 4 := rfl
  have hsz : (s.extract (s.size - 4) s.size).size = 4 := by rw [ByteArray.size_extract]; omega
  constructor
  · intro e t ht
    rw [← sby_strN _ (le4_lt _) (by rw [hl]; exact ht), ← e, sby_extract s _ _ _ (Nat.le_refl _) (by omega)]
  · intro hs
    refine str_ext (by rw [hsz, strN_size]; rfl) fun t ht => ?_
    rw [hsz] at ht
    rw [sby_extract s _ _ _ (Nat.le_refl _) (by omega), hs t ht, sby_strN _ (le4_lt _) (by rw [hl]; exact ht)]

set_option maxRecDepth 100000 in
set_option maxHeartbeats 2000000 in
theorem Check_any (s : ByteArray) (k : Int) (w : World) (hss : (s.size : Int) ≤ 9223372036854775807) :
    Calls Tryz.prog 119 #[.string s, .int .i64 k] w fun e w' => e = .returned (.int .i64 (chkErr s k)) ∧ Ext w w' := by
  by_cases hk : k < 1 ∨ 10 < k
  · rw [show chkErr s k = 1 from by unfold chkErr; rw [if_pos hk]]
    go_enter Tryz.func119, Tryz.ntmps119
    by_cases h1 : k < 1
    · clear hk
      go_wp2
      go_ret
      exact ⟨rfl, Ext.refl _⟩
    · have h2 : 10 < k := by omega
      clear hk
      go_wp2
      go_ret
      exact ⟨rfl, Ext.refl _⟩
  · obtain ⟨h1, h2⟩ : ¬ k < 1 ∧ ¬ 10 < k := by omega
    by_cases h5 : s.size < 5
    · rw [show chkErr s k = 7 from by unfold chkErr; rw [if_neg hk, if_pos h5]]
      clear hk
      have h5I : (s.size : Int) < 5 := by omega
      go_enter Tryz.func119, Tryz.ntmps119
      go_wp2
      go_ret
      exact ⟨rfl, Ext.refl _⟩
    · have h5I : ¬ (s.size : Int) < 5 := by omega
      obtain ⟨m, hm⟩ : ∃ m, m = s.size - 4 := ⟨_, rfl⟩
      have hmI : (s.size : Int) - 4 = (m : Int) := by omega
      have hml : m ≤ s.size := by omega
      have CS := hide (Sum_any (s.extract 0 m) (by rw [ByteArray.size_extract]; omega) w)
      rw [show (s.extract 0 m).size = m from by rw [ByteArray.size_extract]; omega, crcS_same (sby (s.extract 0 m)) (sby s) m fun t ht => by rw [sby_extract s 0 m t hml (by omega), Nat.zero_add]] at CS
      have hXl := sumS_lt (sby s) (sby_lt s) m
      have HLI := hide (last_iff s (by omega))
      rw [← hm] at HLI
      have CS : Hid (Calls Tryz.prog 122 #[.string (s.extract 0 m)] w fun e w' => e = .returned (.int .u32 ((sumS (sby s) m : Nat) : Int)) ∧ w' = w) := CS
      obtain ⟨X, hX⟩ : ∃ X, X = sumS (sby s) m := ⟨_, rfl⟩
      rw [← hX] at CS hXl HLI
      have h4 := fun w => four_str X hXl w
      obtain ⟨k', rfl⟩ : ∃ k' : Nat, k = k' := ⟨k.toNat, by omega⟩
      have HX := hide hX
      clear hX
      subst hm
      clear hk
      have g0 : IntKind.u8.wrap (X : Int) = (X : Int) % 256 := rfl
      have g1 : IntKind.u8.wrap ((X : Int) / 256) = (X : Int) / 256 % 256 := rfl
      have g2 : IntKind.u8.wrap ((X : Int) / 65536) = (X : Int) / 65536 % 256 := rfl
      have g3 : IntKind.u8.wrap ((X : Int) / 16777216) = (X : Int) / 16777216 := IntWalk.u8_in _ (by omega)
      clear h4
      have hb0 := sby_get s 0 (by omega)
      obtain ⟨b0, hbb⟩ : ∃ b0, b0 = sby s 0 := ⟨_, rfl⟩
      rw [← hbb] at hb0
      have hbl : b0 < 256 := by rw [hbb]; exact sby_lt s 0
      have h0s : 0 < s.size := by omega
      have CSZ := hide (fun (h : b0 ≤ 60) (w : World) => size_any b0 k' w (by omega) (by omega) (by omega))
      obtain ⟨S, hS⟩ : ∃ S, S = sz b0 k' := ⟨_, rfl⟩
      have hSd : (b0 + k' - 1) / k' = S := hS.symm
      rw [hSd] at CSZ
      have hSl : S ≤ 300 := by
        rw [← hSd]
        exact Nat.le_trans (Nat.div_le_self _ _) (by omega)
      have HB0 := hide hbb
      have HSS := hide hS
      clear hbb hS hSd
      by_cases hso : sumOk s
      · have hne : s.extract (s.size - 4) s.size = strN (le4 X) := (unhide HLI).2 hso
        have HCE := hide (show chkErr s (k' : Int) = if 60 < b0 ∨ s.size - 4 ≠ 1 + S then 3 else 0 from by
          unfold chkErr
          rw [if_neg (by omega), if_neg h5, if_neg (by simpa using hso), ← unhide HB0, Int.toNat_natCast, ← unhide HSS])
        go_enter Tryz.func119, Tryz.ntmps119
        go_wp2_with fail
        refine (unhide CS).mono ?_
        rintro e w1 ⟨rfl, rfl⟩
        have h4d := four_str X hXl w1.drew
        have h4e : (convert 106 9 (.slice (some ⟨w1.heap.size, 0, none⟩) 4 4)).run Tryz.prog ((w1.alloc (.cells #[.int .u8 ((X : Int) % 256), .int .u8 ((X : Int) / 256 % 256), .int .u8 ((X : Int) / 65536 % 256), .int .u8 ((X : Int) / 16777216)] 5)).drew) = .ok (.string (strN (le4 X))) ((w1.alloc (.cells #[.int .u8 ((X : Int) % 256), .int .u8 ((X : Int) / 256 % 256), .int .u8 ((X : Int) / 65536 % 256), .int .u8 ((X : Int) / 16777216)] 5)).drew) := h4d
        clear h4d
        go_wp2
        go_region_law (fail)
        clear h4e g0 g1 g2 g3
        have EW : Ext w1 (w1.alloc (.cells #[.int .u8 ((X : Int) % 256), .int .u8 ((X : Int) / 256 % 256), .int .u8 ((X : Int) / 65536 % 256), .int .u8 ((X : Int) / 16777216)] 5)).drew := ((Ext.refl w1).alloc _).drew
        have HEW := hide EW
        clear EW
        generalize (w1.alloc (.cells #[.int .u8 ((X : Int) % 256), .int .u8 ((X : Int) / 256 % 256), .int .u8 ((X : Int) / 65536 % 256), .int .u8 ((X : Int) / 16777216)] 5)).drew = w3 at *
        clear hne
        by_cases h60 : 60 < b0
        · have HR3 := hide (show chkErr s (k' : Int) = 3 from by rw [unhide HCE, if_pos (.inl h60)])
          have h60I : (60 : Int) < (b0 : Int) := by omega
          go_wp2
          go_ret
          exact ⟨by rw [unhide HR3]; rfl, unhide HEW⟩
        · by_cases hfit : s.size - 4 = 1 + S
          · have HR0 := hide (show chkErr s (k' : Int) = 0 from by rw [unhide HCE, if_neg (by omega)])
            have h60I : ¬ (60 : Int) < (b0 : Int) := by omega
            go_wp2_with fail
            refine (unhide CSZ (by omega) _).mono ?_
            rintro e w5 ⟨rfl, rfl⟩
            go_wp2
            go_ret
            exact ⟨by rw [unhide HR0]; rfl, unhide HEW⟩
          · have HR3 := hide (show chkErr s (k' : Int) = 3 from by rw [unhide HCE, if_pos (.inr hfit)])
            have h60I : ¬ (60 : Int) < (b0 : Int) := by omega
            go_wp2_with fail
            refine (unhide CSZ (by omega) _).mono ?_
            rintro e w5 ⟨rfl, rfl⟩
            go_wp2
            go_ret
            exact ⟨by rw [unhide HR3]; rfl, unhide HEW⟩
      · have hne : ¬ s.extract (s.size - 4) s.size = strN (le4 X) := fun h => hso ((unhide HLI).1 h)
        have HCE := hide (show chkErr s (k' : Int) = 8 from by
          unfold chkErr
          rw [if_neg (by omega), if_neg h5, if_pos hso])
        have hneB : ((s.extract (s.size - 4) s.size).toList == (strN (le4 X)).toList) = false := by
          rw [beq_eq_false_iff_ne]; exact fun h => hne (str_inj8 h)
        clear hne
        go_enter Tryz.func119, Tryz.ntmps119
        go_wp2_with fail
        refine (unhide CS).mono ?_
        rintro e w1 ⟨rfl, rfl⟩
        have h4d := four_str X hXl w1.drew
        have h4e : (convert 106 9 (.slice (some ⟨w1.heap.size, 0, none⟩) 4 4)).run Tryz.prog ((w1.alloc (.cells #[.int .u8 ((X : Int) % 256), .int .u8 ((X : Int) / 256 % 256), .int .u8 ((X : Int) / 65536 % 256), .int .u8 ((X : Int) / 16777216)] 5)).drew) = .ok (.string (strN (le4 X))) ((w1.alloc (.cells #[.int .u8 ((X : Int) % 256), .int .u8 ((X : Int) / 256 % 256), .int .u8 ((X : Int) / 65536 % 256), .int .u8 ((X : Int) / 16777216)] 5)).drew) := h4d
        clear h4d
        go_wp2
        go_region_law (fail)
        clear h4e g0 g1 g2 g3
        have EW : Ext w1 (w1.alloc (.cells #[.int .u8 ((X : Int) % 256), .int .u8 ((X : Int) / 256 % 256), .int .u8 ((X : Int) / 65536 % 256), .int .u8 ((X : Int) / 16777216)] 5)).drew := ((Ext.refl w1).alloc _).drew
        have HEW := hide EW
        clear EW
        generalize (w1.alloc (.cells #[.int .u8 ((X : Int) % 256), .int .u8 ((X : Int) / 256 % 256), .int .u8 ((X : Int) / 65536 % 256), .int .u8 ((X : Int) / 16777216)] 5)).drew = w3 at *
        go_wp2
        go_ret
        exact ⟨by rw [unhide HCE]; rfl, unhide HEW⟩
end Go.Proofs.YtpenkbhljkmliaaGreatDoor
