/-
  The contracts of cyclic.Put and cyclic.Get; wholekeep.cyclics.
-/
import Derived.Test.YtekkghhihnnpjaaDoorCyc4
set_option linter.unusedVariables false
set_option linter.unusedSimpArgs false
namespace Go.Proofs.YtekkghhihnnpjaaDoor
open Go.RowKit Go.BigFrame
theorem zeros_str (c : Nat) : (⟨(Lib.repeatL (⟨#[48]⟩ : ByteArray).data.toList c).toArray⟩ : ByteArray) = bsF (fun _ => false) c := by
  have h : (Lib.repeatL (⟨#[48]⟩ : ByteArray).data.toList c) = (bsF (fun _ => false) c).data.toList := by
    rw [bsF_data]
    have := Lib.repeatL_replicate (48 : UInt8) 1 c
    rw [Nat.mul_one] at this
    refine this.trans ?_
    symm
    rw [List.eq_replicate_iff]
    refine ⟨by simp, fun b hb => ?_⟩
    obtain ⟨i, -, rfl⟩ := List.mem_map.1 hb
    rfl
  rw [h]
set_option maxRecDepth 100000 in
set_option maxHeartbeats 4000000 in
theorem Put_ok (f G : Nat → Bool) (N m : Nat) (h1 : 1 ≤ m) (h16 : m ≤ 16) (hN : N ≤ 200) (h0 : G 0 = true) (hGm : G m = true) (hG : ∀ k, m < k → G k = false) (w : World) :
    Calls Tryd.prog 15 #[.string (bsF f N), .string (bsF G (m + 1))] w fun e w' => e = .returned (.tuple #[.string (bsF (Wm.putF G N f) (N + m)), .int .i64 0]) ∧ Ext w w' := by
  have CK := hide (fun w => Check_ok G m h1 h16 h0 hGm w)
  have CB := hide (fun w => isBits_ok f N (by omega) w)
  have CR := hide (fun w => Tryd.strings_Repeat ⟨#[48]⟩ m w (by omega) (by show 1 * m ≤ _; omega))
  rw [zeros_str] at CR
  have e1 : bsF f N ++ bsF (fun _ => false) m = bsF (fun k => if k < N then f k else false) (N + m) := by rw [bsF_append]
  have CM := hide (fun w => remainder_ok (fun k => if k < N then f k else false) G N m h1 h16 (by omega) hG w)
  rw [← e1] at CM
  have HE := hide (show bsF f N ++ bsF (fun j => Wm.rn G N (fun k => if k < N then f k else false) (N + j)) m = bsF (Wm.putF G N f) (N + m) from by
    rw [bsF_append]
    refine bsF_congr fun j hj => ?_
    show (if j < N then f j else Wm.rn G N (fun k => if k < N then f k else false) (N + (j - N))) = if j < N then f j else Wm.rn G N (fun k => if k < N then f k else false) j
    by_cases c : j < N
    · rw [if_pos c, if_pos c]
    · rw [if_neg c, if_neg c, show N + (j - N) = j by omega])
  obtain ⟨s, hs⟩ : ∃ s, s = bsF f N := ⟨_, rfl⟩
  obtain ⟨t, ht⟩ : ∃ t, t = bsF G (m + 1) := ⟨_, rfl⟩
  obtain ⟨z, hz⟩ : ∃ z, z = bsF (fun _ => false) m := ⟨_, rfl⟩
  obtain ⟨r, hr⟩ : ∃ r, r = bsF (fun j => Wm.rn G N (fun k => if k < N then f k else false) (N + j)) m := ⟨_, rfl⟩
  have hsz : s.size = N := by rw [hs]; exact bsF_size _ _
  have htz : t.size = m + 1 := by rw [ht]; exact bsF_size _ _
  have hzz : z.size = m := by rw [hz]; exact bsF_size _ _
  have hrz : r.size = m := by rw [hr]; exact bsF_size _ _
  rw [← hr, ← hs] at HE
  rw [← hs] at CB ⊢
  rw [← hs, ← ht, ← hz, ← hr] at CM
  rw [← ht] at CK ⊢
  rw [← hz] at CR
  have hsI : ¬ (200 : Int) < (s.size : Int) := by omega
  have htI : (t.size : Int) - 1 = (m : Int) := by omega
  have hz1 : ¬ 9223372036854775807 < s.size + z.size := by omega
  have hz2 : ¬ 9223372036854775807 < s.size + r.size := by omega
  clear hs ht hz hr e1 hsz htz hzz hrz
  go_enter Tryd.func15, Tryd.ntmps15
  go_wp2_with fail
  refine (unhide CK _).mono ?_
  rintro e w1 ⟨rfl, E1⟩
  go_wp2_with fail
  refine (unhide CB _).mono ?_
  rintro e w2 ⟨rfl, E2⟩
  go_wp2_with fail
  refine (unhide CR _).mono ?_
  rintro e w3 ⟨rfl, E3⟩
  go_wp2_with fail
  refine (unhide CM _).mono ?_
  rintro e w4 ⟨rfl, E4⟩
  have HE4 := hide (((E1.trans E2).trans (show Ext w2 w3 from E3)).trans E4)
  go_wp2
  go_ret2
  exact ⟨by rw [← unhide HE]; rfl, unhide HE4⟩
end Go.Proofs.YtekkghhihnnpjaaDoor
