/-
  The contracts of leaves and up for hash trees.
-/
import Derived.Test.YtheklkgilcdhoaaTree2
import Derived.Test.YtheklkgilcdhoaaStrs
import Derived.Test.YtheklkgilcdhoaaTri
import Derived.BigRegion
import Derived.Deep.RegionHeld3
import Derived.Deep.Cut
import Derived.Deep.CutRange
set_option linter.unusedVariables false
set_option linter.unusedSimpArgs false
namespace Go.Proofs.Ytheklkgilcdhoaa
open Go.RowKit Go.BigFrame

theorem longI : EInfo Try.prog 31 28 (.int .u64 0) 1 8 := EInfo.mk_ Try.underlying31 (by kernel_rfl) rfl (by omega)
theorem nats_snoc (K : IntKind) (l : List Nat) (x : Nat) : nats K (l ++ [x]) = nats K l ++ [.int K (x : Int)] := by simp [nats]

def LeavesPost (l : List ByteArray) (w w' : World) (e : Ending) : Prop := ∃ v, e = .returned (.tuple #[v, .int .i64 0]) ∧ w'.ownsRow w.heap.size 28 1 v l.length (nats .u64 (l.map lf))
set_option maxRecDepth 100000 in
set_option maxHeartbeats 1000000 in
theorem leaves_any (A : Option Addr) (n c : Nat) (l : List ByteArray) (w : World) (hn1 : 1 ≤ n) (hn : n ≤ 16) (hl : Row w A n 1 (strs l)) (hs : ∀ s ∈ l, (s.size : Int) ≤ 9223372036854775807) :
    Calls Try.prog 18 #[.slice A n c] w fun e w' => LeavesPost l w w' e ∧ Ext w w' := by
  have hlen := hl.strN
  have HS := hide hs
  clear hs
  go_enter Try.func18, Try.ntmps18
  go_wp2
  go_loopw [4, 17] (fun v i wr => ∃ k : Nat, k ≤ n ∧ i = .int .i64 k ∧ wr.ownsRow w.heap.size 28 1 v k (nats .u64 ((l.take k).map lf)) ∧ Ext w wr) (fun _ i _ => n - (intOf i).toNat)
  case atStart => exact ⟨0, Nat.zero_le _, rfl, World.ownsRow_nil _ _ _ _, Ext.refl _⟩
  case round =>
    obtain ⟨k, hk, rfl, hown, hext⟩ := hrel
    by_cases hlt : k < n
    · obtain ⟨b, o, rfl, hb, hc⟩ := (hl.keep hext).str hlt
      have hsm := unhide HS _ (getD_mem l ByteArray.empty (show k < l.length by omega))
      have htk : nats .u64 ((l.take (k + 1)).map lf) = nats .u64 ((l.take k).map lf) ++ [.int .u64 (lf (l.getD k ByteArray.empty))] := by
        rw [take_snoc l ByteArray.empty (by omega), List.map_append]
        exact nats_snoc _ _ _
      have HT := hide htk
      have HOW := hide hown
      generalize l.getD k ByteArray.empty = s at *
      have CL := hide (Leaf_any s · hsm)
      have hbd : (k + 1) * 8 ≤ 140737488355328 ∧ k + 1 ≤ 9223372036854775807 := by omega
      clear htk hown hsm hl hlen
      go_wp2_with fail
      refine (unhide CL _).mono ?_
      rintro e w' ⟨rfl, rfl⟩
      go_wp2_with (at_builtin; refine wpList_app rfl _ _ 31 (by rfl) 28 longI hext _ _ _ _ (by rfl) (unhide HOW) 1 1 (by rfl) rfl rfl hbd ?_)
      intro v' w2 hown' hext' _
      have hown2 : w2.ownsRow w.heap.size 28 1 v' (k + 1) (nats .u64 ((l.take (k + 1)).map lf)) := by rw [unhide HT, List.map_take]; exact hown'
      clear hown'
      go_wp2
      go_roundw
      case rel => exact ⟨k + 1, by omega, num_eq (by omega), hown2, hext'⟩
      case measure => simp [intOf]; omega
    · obtain rfl : k = n := by omega
      rw [List.take_of_length_le (by omega)] at hown
      have HOW := hide hown
      clear hown
      go_wp2
      go_ret2
      exact ⟨⟨_, rfl, by rw [hlen]; exact unhide HOW⟩, hext⟩

set_option maxRecDepth 100000 in
theorem leaves_bad (A : Option Addr) (n c : Nat) (w : World) (h : n < 1 ∨ 16 < n) :
    Calls Try.prog 18 #[.slice A n c] w fun e w' => e = .returned (.tuple #[.slice none 0 0, .int .i64 2]) ∧ w' = w := by
  rcases h with h | h
  · obtain rfl : n = 0 := by omega
    go_enter Try.func18, Try.ntmps18
    go_wp2
    go_ret2
    exact ⟨rfl, rfl⟩
  · have h1 : ¬ (n : Int) < 1 := by omega
    have h2 : (16 : Int) < (n : Int) := by omega
    clear h
    go_enter Try.func18, Try.ntmps18
    go_wp2
    go_ret2
    exact ⟨rfl, rfl⟩

theorem upL_take {f : Nat → Nat → Nat} : ∀ (l : List Nat) (j : Nat), 2 * j < l.length → (Wm.upL f l).take (j + 1) = (Wm.upL f l).take j ++ [if 2 * j + 1 = l.length then l.getD (2 * j) 0 else f (l.getD (2 * j) 0) (l.getD (2 * j + 1) 0)]
  | [], j, h => by simp at h
  | [a], j, h => by
    obtain rfl : j = 0 := by simp at h; omega
    simp [Wm.upL]
  | a :: b :: l, 0, h => by simp [Wm.upL]
  | a :: b :: l, j + 1, h => by
    have ih := upL_take (f := f) l j (by simp at h; omega)
    have e : 2 * (j + 1) = 2 * j + 1 + 1 := by omega
    have e2 : (2 * j + 1 + 1 + 1 = (a :: b :: l).length) ↔ (2 * j + 1 = l.length) := by simp
    simp only [Wm.upL, List.take_succ_cons, List.cons_append, ih, e, List.getD_cons_succ, e2]

set_option maxRecDepth 100000 in
set_option maxHeartbeats 2000000 in
theorem up_any (A : Option Addr) (n c : Nat) (l : List Nat) (w : World) (hn : n ≤ 16) (hl : Row w A n 1 (nats .u64 l)) :
    Calls Try.prog 19 #[.slice A n c] w fun e w' => (∃ v, e = .returned v ∧ w'.ownsRow w.heap.size 28 1 v ((n + 1) / 2) (nats .u64 (Wm.upL nd l))) ∧ Ext w w' := by
  have hlen := hl.numN
  have CN := hide Node_any
  have HUP := hide (fun j h => upL_take (f := nd) l j h)
  go_enter Try.func19, Try.ntmps19
  go_wp2
  go_loopw [3, 4] (fun v i wr => ∃ k : Nat, k ≤ (n + 1) / 2 ∧ i = .int .i64 ((2 * k : Nat) : Int) ∧ wr.ownsRow w.heap.size 28 1 v k (nats .u64 ((Wm.upL nd l).take k)) ∧ Ext w wr) (fun _ i _ => 40 - (intOf i).toNat)
  case atStart => exact ⟨0, Nat.zero_le _, rfl, World.ownsRow_nil _ _ _ _, Ext.refl _⟩
  case round =>
    obtain ⟨k, hk, rfl, hown, hext⟩ := hrel
    have hsz := hext.size
    by_cases hlt : 2 * k < n
    · obtain ⟨b, o, rfl, hb, hc⟩ := hl.nat hlt
      have hrow := hl
      have hc := hext.keep hc
      have hne := fun q hq => (hown.lt q hq).1
      have htk := unhide HUP k (by omega)
      have hbd : (k + 1) * 8 ≤ 140737488355328 ∧ k + 1 ≤ 9223372036854775807 := by omega
      have HOW := hide hown
      clear hown
      obtain ⟨i2, hi2⟩ : ∃ i2, i2 = 2 * k := ⟨_, rfl⟩
      rw [← hi2] at htk hc hlt ⊢
      have hi20 : (0 : Int) ≤ (i2 : Int) := by omega
      have hi2n : (i2 : Int) < (n : Int) := by omega
      by_cases hend : i2 + 1 = n
      · rw [if_pos (by omega)] at htk
        have hendI : (i2 : Int) + 1 = (n : Int) := by omega
        have HT := hide htk
        generalize l.getD i2 0 = x at *
        have HI2 := hide hi2
        have HH := hide hend
        clear htk hrow hl hlen hi2 hend
        go_wp2_with (at_builtin; refine wpList_app rfl _ _ 31 (by rfl) 28 longI hext _ _ _ _ (by rfl) (unhide HOW) 1 1 (by rfl) rfl rfl hbd ?_)
        intro v' w2 hown' hext' _
        have hown2 : w2.ownsRow w.heap.size 28 1 v' (k + 1) (nats .u64 ((Wm.upL nd l).take (k + 1))) := by rw [unhide HT, nats_snoc]; exact hown'
        clear hown'
        go_wp2
        go_roundw
        case rel => exact ⟨k + 1, by have := unhide HI2; have := unhide HH; omega, num_eq (by have := unhide HI2; omega), hown2, hext'⟩
        case measure => have := unhide HI2; simp [intOf]; omega
      · rw [if_neg (by omega)] at htk
        obtain ⟨b', o', e', hb', hc'⟩ := hrow.nat (k := i2 + 1) (by omega)
        injection e' with e'
        injection e' with e1 e2
        subst e1; subst e2
        have hc' := hext.keep hc'
        have hendI : ¬ (i2 : Int) + 1 = (n : Int) := by omega
        have hendB : ((i2 : Int) + 1 == (n : Int)) = false := by rw [beq_eq_false_iff_ne]; exact hendI
        have hi21 : (0 : Int) ≤ (i2 : Int) + 1 := by omega
        have hi2w : IntKind.i64.wrap ((i2 : Int) + 1) = (i2 : Int) + 1 := IntWalk.i64_in _ (by omega)
        have hi22 : (i2 : Int) + 1 < (n : Int) := by omega
        have hi23 : ((i2 : Int) + 1).toNat = i2 + 1 := by omega
        have HT := hide htk
        generalize l.getD i2 0 = x at *
        generalize l.getD (i2 + 1) 0 = y at *
        have HI2 := hide hi2
        have HH := hide hend
        clear htk hrow hl hlen hi2 hend
        go_upto_region 7 with fail
        obtain ⟨ht0, ⟨i0, hi0, hz0, hz1, hz2⟩, -, -⟩ := longI
        go_region_held3 (fun w' => w'.cell? ⟨b, o + i2, none⟩ = some (.int .u64 (x : Int)) ∧ w'.cell? ⟨b, o + (i2 + 1), none⟩ = some (.int .u64 (y : Int))) (go_keep)
          (first
            | (go_at_call 21; refine (unhide CN _ _ _).mono ?_; rintro e w' ⟨rfl, rfl⟩)
            | (refine step_append_own rfl _ _ 31 rfl w.heap.size 28 i0 (.int .u64 0) 1 8 ht0 hi0 hz0 hz1 hz2 rfl (by decide) _ k (nats .u64 ((Wm.upL nd l).take k)) rfl ?o ⟨wr.heap.size, 0, none⟩ 1 1 [.int .u64 (nd x y : Int)] rfl rfl ?c1 ?c2 ?c3 ?c4 ?c5 ?h
               case o => exact World.ownsRow.alloc (World.ownsRow.drew (unhide HOW)) _
               case c1 =>
                 intro j u hj
                 match j, hj with
                 | 0, hj => simp at hj; subst hj; exact (World.cell?_alloc_at _ _ _ _ rfl).trans rfl
               case c2 => intro u hu; simp at hu; subst hu; rfl
               case c3 => unfold maxLen; omega
               case c4 => omega
               case c5 => simp; omega
               intro v' w' hown' hgrow _
               have k1 := hgrow.cell (a := ⟨b, o + i2, none⟩) (v := .int .u64 (x : Int)) (by simp [*]) (by intro hq; first | (have := hne b hq; omega) | (have := hne b hq.symm; omega))
               have k2 := hgrow.cell (a := ⟨b, o + (i2 + 1), none⟩) (v := .int .u64 (y : Int)) (by simp [*]) (by intro hq; first | (have := hne b hq; omega) | (have := hne b hq.symm; omega))))
        have hown2 : w'.ownsRow w.heap.size 28 1 v' (k + 1) (nats .u64 ((Wm.upL nd l).take (k + 1))) := by rw [unhide HT, nats_snoc]; exact hown'
        have hext' := (hext.drew.alloc (.cells #[.int .u64 (nd x y : Int)] 28)).grown hgrow hne
        clear hown' hgrow k1 k2
        go_wp2
        go_roundw
        case rel => exact ⟨k + 1, by have := unhide HI2; have := unhide HH; omega, num_eq (by have := unhide HI2; omega), hown2, hext'⟩
        case measure => have := unhide HI2; simp [intOf]; omega
    · have hkn : k = (n + 1) / 2 := by omega
      rw [List.take_of_length_le (by rw [Wm.upL_length]; omega), hkn] at hown
      have HOW := hide hown
      have hltI : ¬ 2 * (k : Int) < (n : Int) := by omega
      clear hown
      go_wp2
      go_ret
      exact ⟨⟨_, rfl, unhide HOW⟩, hext⟩
end Go.Proofs.Ytheklkgilcdhoaa
