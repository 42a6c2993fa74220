/-
  What PieceLong needs of the pieces: their parts; the laws' own example; the text's bytes, padded.
-/
import Derived.Test.YtekkghhihnnpjaaDoorPiece7
import Derived.Test.YtekkghhihnnpjaaDoorCyc1
set_option linter.unusedVariables false
set_option linter.unusedSimpArgs false
namespace Go.Proofs.YtekkghhihnnpjaaDoor
open Go.RowKit Go.BigFrame
theorem piece_parts {s : ByteArray} {k n j : Nat} (hs : s.size ≤ 60) (h1 : 1 ≤ k) (hkn : k ≤ n) (hn : n ≤ 10) (hj : j < n) :
    ((splitL s k n).getD j ByteArray.empty).size = 5 + sz s.size k ∧ chkErr ((splitL s k n).getD j ByteArray.empty) (k : Int) = 0 ∧ sby ((splitL s k n).getD j ByteArray.empty) 0 = s.size ∧
      ∀ i, i < sz s.size k → sby ((splitL s k n).getD j ByteArray.empty) (1 + i) = (Wm.putL (dataL s k (sz s.size k) i) n).getD j 0 := by
  have hpl := colL_lt s k (sz s.size k) n j (sz s.size k) hkn (by omega)
  have hcl := colL_length s k (sz s.size k) n j (sz s.size k)
  have hlt := sealL_lt (len := s.size) (by omega) hpl
  rw [splitL_get hj]
  refine ⟨?_, seal_good h1 (by omega) hs hpl hcl, ?_, fun i hi => ?_⟩
  · rw [strN_size, sealL_length, hcl]; omega
  · rw [sby_strN _ hlt (by rw [sealL_length]; omega), sealL_zero]
  · rw [sby_strN _ hlt (by rw [sealL_length, hcl]; omega), sealL_part (by rw [hcl]; exact hi)]
    unfold gd colL
    rw [Wm.getD_map_ 0 (by simpa using hi), Wm.getD_range hi]

set_option maxRecDepth 100000 in
theorem prefix_yes (s p : ByteArray) (w : World) (hs : (s.size : Int) ≤ 9223372036854775807) (h : p.size ≤ s.size) (he : s.extract 0 p.size = p) :
    Calls Tryd.prog 10 #[.string s, .string p] w fun e w' => e = .returned (.bool true) ∧ w' = w := by
  have hI : (p.size : Int) ≤ (s.size : Int) := by omega
  have C := hide (show Calls Tryd.prog 27 #[.string s, .string p] w fun e w' => e = .returned (.bool true) ∧ w' = w from by
    go_enter Tryd.func27, Tryd.ntmps27
    go_wp2
    go_ret
    exact ⟨rfl, rfl⟩)
  go_enter Tryd.func10, Tryd.ntmps10
  go_wp2_with fail
  refine (unhide C).mono ?_
  rintro e w' ⟨rfl, rfl⟩
  go_wp2
  go_ret
  exact ⟨rfl, rfl⟩
theorem sum_ex : 4294967295 ^^^ crcS (sby ⟨#[49, 50, 51, 52, 53, 54, 55, 56, 57]⟩) (ByteArray.mk #[49, 50, 51, 52, 53, 54, 55, 56, 57]).size = 3808858755 := by decide +kernel
theorem split_ex : (splitL ⟨#[97, 98]⟩ 2 3).length = 3 ∧ ((splitL ⟨#[97, 98]⟩ 2 3).getD 0 ByteArray.empty).extract 0 2 = ⟨#[2, 97]⟩ ∧ ((splitL ⟨#[97, 98]⟩ 2 3).getD 1 ByteArray.empty).extract 0 2 = ⟨#[2, 98]⟩ := by
  refine ⟨splitL_length .., ?_, ?_⟩ <;> decide +kernel

set_option maxRecDepth 100000 in
set_option maxHeartbeats 1000000 in
theorem pieces_any (w : World) : Calls Tryd.prog 8 #[] w fun e w' => e = .returned (.bool true) ∧ Ext w w' := by
  have CS := hide (Split_ok ⟨#[97, 98]⟩ 2 3 w (by decide) (by omega) (by omega) (by omega))
  have CU := hide (fun w => Sum_any ⟨#[49, 50, 51, 52, 53, 54, 55, 56, 57]⟩ (by decide) w)
  rw [sum_ex] at CU
  obtain ⟨e1, e2, e3⟩ := split_ex
  have hp0 := piece_parts (s := ⟨#[97, 98]⟩) (k := 2) (n := 3) (j := 0) (by decide) (by omega) (by omega) (by omega) (by omega)
  have hp1 := piece_parts (s := ⟨#[97, 98]⟩) (k := 2) (n := 3) (j := 1) (by decide) (by omega) (by omega) (by omega) (by omega)
  obtain ⟨L, hL⟩ : ∃ L, L = splitL ⟨#[97, 98]⟩ 2 3 := ⟨_, rfl⟩
  rw [← hL] at CS e1 e2 e3 hp0 hp1
  have hs0 := hp0.1
  have hs1 := hp1.1
  obtain ⟨s0, h0⟩ : ∃ s0, s0 = L.getD 0 ByteArray.empty := ⟨_, rfl⟩
  obtain ⟨s1, h1⟩ : ∃ s1, s1 = L.getD 1 ByteArray.empty := ⟨_, rfl⟩
  rw [← h0] at e2 hs0
  rw [← h1] at e3 hs1
  have hz : sz (ByteArray.mk #[97, 98]).size 2 = 1 := by decide
  rw [hz] at hs0 hs1
  have P0 := hide (fun w => prefix_yes s0 ⟨#[2, 97]⟩ w (by omega) (by show 2 ≤ _; omega) e2)
  have P1 := hide (fun w => prefix_yes s1 ⟨#[2, 98]⟩ w (by omega) (by show 2 ≤ _; omega) e3)
  have H0 := hide h0
  have H1 := hide h1
  have HE := hide e1
  clear hp0 hp1 hs0 hs1 e1 e2 e3 hz hL h0 h1
  go_enter Tryd.func8, Tryd.ntmps8
  go_wp2_with fail
  refine (unhide CS).mono ?_
  rintro e w2 ⟨⟨g, rfl, M⟩, E2⟩
  have hc0 := M.cell (k := 0) (by omega)
  have hc1 := M.cell (k := 1) (by omega)
  have k0 : (strs L).getD 0 undef = .string s0 := by
    rw [List.getD_eq_getElem?_getD, strs_get _ _ (by rw [unhide HE]; omega), unhide H0]; rfl
  have k1 : (strs L).getD 1 undef = .string s1 := by
    rw [List.getD_eq_getElem?_getD, strs_get _ _ (by rw [unhide HE]; omega), unhide H1]; rfl
  rw [k0] at hc0
  rw [k1] at hc1
  have HE2 := hide E2
  clear M E2 k0 k1 CS
  go_wp2_with fail
  refine (unhide P0 _).mono ?_
  rintro e w3 ⟨rfl, rfl⟩
  go_wp2_with fail
  refine (unhide P1 _).mono ?_
  rintro e w3 ⟨rfl, rfl⟩
  go_wp2_with fail
  refine (unhide CU _).mono ?_
  rintro e w3 ⟨rfl, rfl⟩
  go_wp2
  go_ret
  exact ⟨rfl, unhide HE2⟩

theorem strN_data (l : List Nat) : (strN l).data.toList = l.map UInt8.ofNat := by simp [strN]
theorem strN_self (z : ByteArray) : strN ((List.range z.size).map fun k => sby z k) = z := by
  refine str_ext (by rw [strN_size]; simp) fun k hk => ?_
  rw [strN_size] at hk
  rw [strN_byt _ (fun x hx => by obtain ⟨j, -, rfl⟩ := List.mem_map.1 hx; exact sby_lt _ _) hk]
  simp only [List.length_map, List.length_range] at hk
  rw [Wm.getD_map_ 0 (by simpa using hk), Wm.getD_range hk]
def padF (s : ByteArray) (j : Nat) : Nat := if j < s.size then sby s j else 0
theorem padF_lt (s : ByteArray) (j : Nat) : padF s j < 256 := by unfold padF; split; exact sby_lt _ _; omega
def padL (s : ByteArray) (q : Nat) : List Nat := (List.range q).map (padF s)
theorem padL_length (s : ByteArray) (q : Nat) : (padL s q).length = q := by simp [padL]
theorem padL_add (s : ByteArray) (a b : Nat) : padL s (a + b) = padL s a ++ (List.range b).map fun q => padF s (a + q) := by
  unfold padL
  rw [List.range_add, List.map_append, List.map_map]; rfl
theorem padL_text (s : ByteArray) (d : Nat) : padL s (s.size + d) = ((List.range s.size).map fun k => sby s k) ++ List.replicate d 0 := by
  rw [padL_add]
  congr 1
  · exact List.map_congr_left fun j hj => if_pos (List.mem_range.1 hj)
  · rw [List.eq_replicate_iff]
    refine ⟨by simp, fun b hb => ?_⟩
    obtain ⟨i, -, rfl⟩ := List.mem_map.1 hb
    exact if_neg (by omega)
/-- The middle of a piece. -/
theorem piece_mid {s : ByteArray} {k n j : Nat} (hs : s.size ≤ 60) (h1 : 1 ≤ k) (hkn : k ≤ n) (hn : n ≤ 10) (hj : j < k) :
    ((splitL s k n).getD j ByteArray.empty).extract 1 (1 + sz s.size k) = strN ((List.range (sz s.size k)).map fun q => padF s (j * sz s.size k + q)) := by
  obtain ⟨e1, -, -, e4⟩ := piece_parts hs h1 hkn hn (show j < n by omega)
  refine str_ext (by rw [ByteArray.size_extract, e1, strN_size, List.length_map, List.length_range]; omega) fun q hq => ?_
  rw [ByteArray.size_extract, e1] at hq
  have hq2 : q < sz s.size k := by omega
  rw [sby_extract _ 1 _ q (by rw [e1]; omega) (by omega), e4 q hq2, Wm.putL_data (dataL_lt _ _ _ _) (by omega) (by rw [dataL_length]; exact hkn) (by rw [dataL_length]; exact hj),
    strN_byt _ (fun x hx => by obtain ⟨i, -, rfl⟩ := List.mem_map.1 hx; exact padF_lt _ _) (by simpa using hq2), Wm.getD_map_ 0 (by simpa using hq2), Wm.getD_range hq2]
  unfold dataL
  rw [Wm.getD_map_ 0 (by simpa using hj), Wm.getD_range hj]
  rfl
theorem all_next {s : ByteArray} {k n j : Nat} (hs : s.size ≤ 60) (h1 : 1 ≤ k) (hkn : k ≤ n) (hn : n ≤ 10) (hj : j < k) :
    strN (padL s (j * sz s.size k)) ++ ((splitL s k n).getD j ByteArray.empty).extract 1 (1 + sz s.size k) = strN (padL s ((j + 1) * sz s.size k)) := by
  rw [piece_mid hs h1 hkn hn hj, strN_app, Nat.succ_mul, padL_add]
theorem sz_mul {l k : Nat} (h1 : 1 ≤ k) : l ≤ k * sz l k := by
  have h := Nat.div_add_mod (l + k - 1) k
  have h2 := Nat.mod_lt (l + k - 1) (show k > 0 by omega)
  unfold sz
  omega
theorem all_prefix (s : ByteArray) (d : Nat) : Lib.hasPrefix (strN (padL s (s.size + d))).data.toList s.data.toList = true := by
  unfold Lib.hasPrefix
  rw [List.isPrefixOf_iff_prefix, padL_text, strN_data, List.map_append, ← strN_data, strN_self]
  exact ⟨_, rfl⟩
theorem all_rest (s : ByteArray) (d : Nat) : (strN (padL s (s.size + d))).extract s.size (s.size + d) = strN (List.replicate d 0) := by
  refine str_ext (by rw [ByteArray.size_extract, strN_size, strN_size, padL_length, List.length_replicate]; omega) fun q hq => ?_
  rw [ByteArray.size_extract, strN_size, padL_length] at hq
  rw [sby_extract _ _ _ q (by rw [strN_size, padL_length]; exact Nat.le_refl _) (by omega), strN_byt _ (fun x hx => by obtain ⟨i, -, rfl⟩ := List.mem_map.1 hx; exact padF_lt _ _) (by rw [padL_length]; omega),
    strN_byt _ (fun x hx => by rw [(List.mem_replicate.1 hx).2]; omega) (by simp; omega), padL_text, gdr_ _ _ _ (by simp)]
  simp
theorem trim_zeros (d : Nat) (hd : d ≤ 1000) (w : World) :
    Calls Tryd.prog 11 #[.string (strN (List.replicate d 0)), .string ⟨#[0]⟩] w fun e w' => e = .returned (.string ⟨#[]⟩) ∧ Ext w w' := by
  have C := Tryd.strings_Trim_one (strN (List.replicate d 0)) 0 (by decide) w (by rw [strN_size]; simp; omega)
  have e : Lib.trimB (strN (List.replicate d 0)).data.toList 0 = [] := by
    rw [← Lib.trimS_one]
    unfold Lib.trimS
    rw [Lib.trimRightS_take _ _ 0 (Nat.zero_le _) (fun j b _ hb => by
      have hm := List.mem_of_getElem? hb
      rw [strN_data, List.map_replicate] at hm
      rw [(List.mem_replicate.1 hm).2]
      decide) (fun b h => absurd h (by omega)), List.take_zero]
    rfl
  rw [e] at C
  refine C.mono ?_
  rintro e w' ⟨he, hw⟩
  refine ⟨he, ?_⟩
  rcases hw with rfl | rfl
  · exact Ext.refl _
  · exact (Ext.refl _).drew
end Go.Proofs.YtekkghhihnnpjaaDoor
