/-
  The contract of the laws' own sum of two strings, and of the laws' own trial of pairs.
-/
import Derived.Test.YtkcmlcomonfoiaaPair3
set_option linter.unusedVariables false
set_option linter.unusedSimpArgs false
namespace Go.Proofs.Ytkcmlcomonfoiaa
open Go.RowKit Go.BigFrame

/-- The sum of two strings, byte by byte. -/
def sumS (s t : ByteArray) : ByteArray := strN ((List.range s.size).map fun k => byt s k ^^^ byt t k)
theorem sumS_size (s t : ByteArray) : (sumS s t).size = s.size := by rw [sumS, strN_size]; simp
theorem sumS_byt (s t : ByteArray) {k : Nat} (h : k < s.size) : byt (sumS s t) k = byt s k ^^^ byt t k := by
  unfold sumS
  rw [strN_byt _ (fun x hx => by
    obtain ⟨j, -, rfl⟩ := List.mem_map.1 hx
    exact Wm.xor_lt (byt_lt _ _) (byt_lt _ _)) (by simpa using h)]
  rw [List.getD_eq_getElem?_getD, List.getElem?_map, List.getElem?_range h]; rfl

set_option maxRecDepth 100000 in
set_option maxHeartbeats 1000000 in
theorem both_ok (s t : ByteArray) (w : World) (h : s.size = t.size) (hm : s.size ≤ 64) :
    Calls Try.prog 20 #[.string s, .string t] w fun e w' => e = .returned (.string (sumS s t)) ∧ Ext w w' := by
  obtain ⟨c, W, hcv, EW, hsc, hbuf⟩ := bytes_of w s
  obtain ⟨m, hmm⟩ : ∃ m, m = s.size := ⟨_, rfl⟩
  have htm : t.size = m := by omega
  have hsI : (s.size : Int) = (m : Int) := by omega
  have htI : (t.size : Int) = (m : Int) := by omega
  have e0 : (List.range s.size).map (fun k => byt s k) = mix (fun k => byt s k) (fun k => byt s k ^^^ byt t k) m 0 := by rw [mix_zero, hmm]
  rw [e0] at hbuf
  have e1 : sumS s t = strN (mix (fun k => byt s k) (fun k => byt s k ^^^ byt t k) m m) := by rw [mix_all, hmm]; rfl
  have H1 := hide e1
  have HB := hide hbuf
  have hm64 : m ≤ 64 := by omega
  rw [← hmm] at hcv
  clear e0 e1 hbuf h hm hmm
  go_enter Try.func20, Try.ntmps20
  go_wp2
  go_loopw [14] (fun i wr => ∃ k : Nat, k ≤ m ∧ i = .int .i64 k ∧ Hid (Buf wr w.heap.size w.heap.size (nats .u8 (mix (fun k => byt s k) (fun k => byt s k ^^^ byt t k) m k))) ∧ Ext w wr) (fun i _ => m - (intOf i).toNat)
  case atStart => exact ⟨0, Nat.zero_le _, rfl, HB, EW⟩
  case round =>
    clear HB EW hcv
    obtain ⟨k, hk, rfl, HB, hext⟩ := hrel
    by_cases hlt : k < m
    · have hb := unhide HB
      have hc := hb.nat (k := k) (by rw [mix_length]; exact hlt)
      rw [mix_get _ _ hlt] at hc
      obtain ⟨hcc, hff⟩ := hc
      have hks : k < t.size := by omega
      have hbt := byt_get t k hks
      have hX := u8_xor_nat (byt s k) (byt t k) (byt_lt _ _) (byt_lt _ _)
      have hset := mix_set (fun k => byt s k) (fun k => byt s k ^^^ byt t k) hlt
      try dsimp only at hset
      try dsimp only at hcc
      have hb2 := hb.set (k := k) (by rw [nats_length, mix_length]; exact hlt) (.int .u8 ((byt s k ^^^ byt t k : Nat) : Int))
      rw [nats_set, hset] at hb2
      have hk0 : (0 : Int) ≤ (k : Int) := by omega
      have hkm : (k : Int) < (m : Int) := by omega
      have hks2 : (k : Int) < (t.size : Int) := by omega
      have HB2 := hide hb2
      have hE2 := hext.setCell (p := ⟨w.heap.size, k, none⟩) (Nat.le_refl _) (.int .u8 ((byt s k ^^^ byt t k : Nat) : Int))
      clear hb hb2 hset HB hext
      generalize byt s k = x at *
      generalize byt t k = y at *
      go_upto_region 5 with fail
      go_still_tail 9, (by kernel_rfl)
      go_wp2
      go_roundw
      case rel => exact ⟨k + 1, by omega, num_eqP (by omega), by first | exact hide ((unhide HB2).keep ((Ext.refl _).drew)) | exact HB2, by first | exact hE2.drew | exact hE2⟩
      case measure => simp [intOf]; omega
    · obtain rfl : k = m := by omega
      have hb := unhide HB
      have hstr := fun c => hb.str (P := Try.prog) Try.underlying22 Try.underlying5 Try.underlying9 c
      rw [mix_length] at hstr
      have hst := hstr c
      rw [← unhide H1] at hst
      clear hb hstr HB H1
      obtain ⟨z, hz⟩ : ∃ z, z = sumS s t := ⟨_, rfl⟩
      rw [← hz] at hst
      have HZ := hide hz
      clear hz
      go_wp2
      go_ret
      exact ⟨by rw [← unhide HZ]; rfl, hext⟩

def la : ByteArray := { data := #[97] }
def lb : ByteArray := { data := #[98] }
theorem okB_ab : okB [la, lb] := ⟨by decide, by decide, fun s hs => by simp at hs; rcases hs with rfl | rfl <;> decide⟩
theorem put_ab : strN ((List.range 1).map fun k => pc [la, lb] [] k 2) = { data := #[3] } ∧ strN ((List.range 1).map fun k => qc [la, lb] [] k 2) = strN [97 ^^^ Wm.fmul 2 98] := by
  refine ⟨?_, ?_⟩
  · have : ((List.range 1).map fun k => pc [la, lb] [] k 2) = [3] := by decide +kernel
    rw [this]; rfl
  · have : ((List.range 1).map fun k => qc [la, lb] [] k 2) = [97 ^^^ Wm.fmul 2 98] := by decide +kernel
    rw [this]
theorem Put_ab (w : World) : Calls Try.prog 19 #[.slice (some ⟨w.heap.size, 0, none⟩) 2 2] (w.alloc (.cells #[.string { data := #[97] }, .string { data := #[98] }] 9)) fun e w' =>
    e = .returned (.tuple #[.string { data := #[3] }, .string (strN [97 ^^^ Wm.fmul 2 98]), .int .i64 0]) ∧ Ext (w.alloc (.cells #[.string { data := #[97] }, .string { data := #[98] }] 9)) w' := by
  refine (Put_any (some ⟨w.heap.size, 0, none⟩) 2 2 [la, lb] (w.alloc (.cells #[.string { data := #[97] }, .string { data := #[98] }] 9)) (row_new w _ _ 2 1 rfl) (by omega) (fun s hs => by simp at hs; rcases hs with rfl | rfl <;> decide)).mono ?_
  rintro e w' ⟨h | ⟨h, -⟩, E⟩
  · refine ⟨?_, E⟩
    rw [h.2]
    unfold PutOk
    have h1 : ([la, lb].getD 0 ByteArray.empty).size = 1 := by decide
    rw [h1]
    show Ending.returned (.tuple #[.string (strN ((List.range 1).map fun k => pc [la, lb] [] k 2)), .string (strN ((List.range 1).map fun k => qc [la, lb] [] k 2)), .int .i64 0]) = _
    rw [put_ab.1, put_ab.2]
  · exact absurd okB_ab h

set_option maxRecDepth 100000 in
theorem pairs_any (w : World) : Calls Try.prog 18 #[] w fun e w' => e = .returned (.bool true) ∧ Ext w w' := by
  have C1 := hide Put_ab
  have C2 := hide (fun w : World => Mul_any 2 98 (by omega) (by omega) w)
  have hv : Wm.fmul 2 98 < 256 := Wm.fmul_lt (by omega) (by omega)
  have hX := u8_xor_nat 97 (Wm.fmul 2 98) (by omega) hv
  have hbuf : ∀ (w : World) (x : Nat), Buf (w.alloc (.cells #[.int .u8 (x : Int)] 5)) 0 w.heap.size (nats .u8 [x]) := fun w x => ⟨Nat.zero_le _, by simp, fun j hj => by
    obtain rfl : j = 0 := by simp [nats] at hj; omega
    simp [nats, go_sem]⟩
  have hcv : ∀ (w : World) (x c : Nat), (convert 22 9 (.slice (some ⟨w.heap.size, 0, none⟩) 1 c)).run Try.prog (w.alloc (.cells #[.int .u8 (x : Int)] 5)) = .ok (.string (strN [x])) (w.alloc (.cells #[.int .u8 (x : Int)] 5)) := fun w x c => (hbuf w x).str (P := Try.prog) Try.underlying22 Try.underlying5 Try.underlying9 c
  have hcv1 := fun w c => hcv w (97 ^^^ Wm.fmul 2 98) c
  have hX' : bits BinOp.xor IntKind.u8 97 ((Wm.fmul 2 98 : Nat) : Int) = ((97 ^^^ Wm.fmul 2 98 : Nat) : Int) := hX
  clear hbuf hcv hX
  generalize 97 ^^^ Wm.fmul 2 98 = z at *
  generalize Wm.fmul 2 98 = y at *
  go_enter Try.func18, Try.ntmps18
  go_wp2_with fail
  refine (unhide C1 w).mono ?_
  rintro e w1 ⟨rfl, E1⟩
  go_wp2_with fail
  refine (unhide C2 _).mono ?_
  rintro e w2 ⟨rfl, rfl⟩
  go_wp2
  go_ret
  exact ⟨rfl, (((Ext.refl w).alloc _).trans E1).alloc _⟩
end Go.Proofs.Ytkcmlcomonfoiaa
