/-
  Contracts of package slices at uint16 (Clone, Clip, Compact, Reverse, Sort of nothing) and of linear.words.
-/
import Derived.Test.YtkebldjepdhioaaSrt11
import Derived.Test.YtkebldjepdhioaaShelfSls21
import Derived.Test.YtkebldjepdhioaaLin0
import Derived.Test.YtkebldjepdhioaaBits1
import Derived.Lib.SlicesCompact
set_option linter.unusedVariables false
set_option linter.unusedSimpArgs false
namespace Wm
/-- The sums in order, each once. -/
def wl (l : List Nat) : List Nat := Go.Lib.compact ((ws l).mergeSort (fun a b => decide (a ≤ b)))
def bl (l : List Nat) : List Nat := ((bs l).mergeSort (fun a b => decide (a ≤ b))).reverse
end Wm
namespace Go.Proofs.Ytkebldjepdhioaa
open Go.RowKit Go.BigFrame Go.Sort

def enc16 (x : Nat) : Value := .int .u16 (x : Int)
theorem enc16_one : OneCell enc16 := fun _ => rfl
theorem eql16 : EqlAt Try.prog 26 enc16 (fun x y => decide (x = y)) :=
  ⟨fun x y w => by
    have e : ((x : Int) == (y : Int)) = decide (x = y) := by rw [Bool.eq_iff_iff]; simp; omega
    have := (EqlAt.int Try.prog 26 .u16).1 (x : Int) (y : Int) w
    show _ = Result.ok (Value.bool (decide (x = y))) w
    rw [← e]
    exact this, fun op a b x y w => (GuardAt.int Try.prog 26 .u16) op a b (x : Int) (y : Int) w⟩
theorem neq16 : NeqAt Try.prog 26 enc16 (fun x y => decide (x = y)) :=
  ⟨fun x y w => by
    have e : ((x : Int) == (y : Int)) = decide (x = y) := by rw [Bool.eq_iff_iff]; simp; omega
    have := (NeqAt.int Try.prog 26 .u16).1 (x : Int) (y : Int) w
    show _ = Result.ok (Value.bool (!decide (x = y))) w
    rw [← e]
    exact this, fun op a b x y w => (GuardAt.int Try.prog 26 .u16) op a b (x : Int) (y : Int) w⟩
section
variable {w : World} {base g n c : Nat} {l : List Nat}
theorem made_len (M : Made w base 26 1 (.slice (some ⟨g, 0, none⟩) n c) n (nats .u16 l)) : l.length = n := by have := M.1; rw [nats_length] at this; omega
theorem made_holds (M : Made w base 26 1 (.slice (some ⟨g, 0, none⟩) n c) n (nats .u16 l)) : Holds enc16 w g 0 l.toArray := fun j hj => by
  have hl := made_len M
  have hj' : j < l.length := by simpa using hj
  refine ⟨?_, by rw [Nat.zero_add]; exact M.frozen j⟩
  rw [Nat.zero_add, M.nat (by omega)]
  show _ = some (Value.int .u16 _)
  simp [List.getD_eq_getElem?_getD, hj']
theorem made_put (M : Made w base 26 1 (.slice (some ⟨g, 0, none⟩) n c) n (nats .u16 l)) {m : List Nat} (hm : m.length = n) (q : Nat) :
    Made (putRow enc16 (Sort.ahead w q) g 0 m.toArray) base 26 1 (.slice (some ⟨g, 0, none⟩) n c) n (nats .u16 m) ∧ Oth g w (putRow enc16 (Sort.ahead w q) g 0 m.toArray) := by
  refine ⟨⟨by rw [nats_length, hm, Nat.mul_one], ?_⟩, ⟨rfl, rfl, rfl, by simp [Sort.ahead], fun k hk hn => ?_⟩⟩
  · rcases M.2 with ⟨h2, -⟩ | ⟨g', c', cur, h3, h4, h5, h6, h7, h8, h9⟩
    · cases h2
    · injection h3 with h3 _ h3'
      simp only [Option.some.injEq, Addr.mk.injEq, and_true] at h3
      subst h3; subst h3'
      refine .inr ⟨g, c, putCells enc16 0 m.toArray cur, rfl, h4, ?_, h6, h7, by simpa [putCells] using h8, ?_⟩
      · show (mapBlock (Sort.ahead w q) g _).heap[g]? = _
        unfold mapBlock
        simp [Sort.ahead, Array.getElem?_modify, h5, onCells]
      · have hlen : n ≤ cur.size := by omega
        apply List.ext_getElem
        · simp [putCells, nats, hm]; omega
        · intro k h1 h2
          have hk : k < n := by simp [nats, hm] at h2; omega
          simp [putCells, nats, hm, hk, enc16]
  · show (mapBlock (Sort.ahead w q) g _).heap[k]? = _
    unfold mapBlock
    rw [Array.getElem?_modify, if_neg (fun e => hn e.symm)]
    rfl
end

set_option maxRecDepth 100000 in
set_option maxHeartbeats 1000000 in
theorem clone_u16 (A : Option Addr) (n c : Nat) (xs : List Value) (w : World) (R : Row w A n 1 xs) (h1 : ∀ u ∈ xs, u.oneCell' = true) (hb : n * 2 ≤ 140737488355328) (hnil : A = none → n = 0 ∧ c = 0) :
    Calls Try.prog 8 #[.slice A n c] w fun e w' => (∃ v, e = .returned v ∧ w'.ownsRow w.heap.size 26 1 v n xs) ∧ Ext w w' := by
  have hi0 : (Try.prog.info? 26).map (fun i => (i.zero, i.size, i.bytes)) = some (some (.int .u16 0), 1, 2) := by kernel_rfl
  obtain ⟨i0, hi, hz0, hz1, hz2⟩ := info_parts hi0
  cases A with
  | none =>
    obtain ⟨rfl, rfl⟩ := hnil rfl
    obtain rfl := R.empty
    have heq := fun w : World => Lib.run_eql_slice_nil w 22 26 none 0 0 0 0 Try.underlying22
    go_enter Try.func8, Try.ntmps8
    go_wp2
    go_ret
    exact ⟨⟨_, rfl, World.ownsRow_nil _ _ _ _⟩, Ext.refl _⟩
  | some ad =>
    have heq := fun w : World => Lib.run_eql_slice_nil w 22 26 (some ad) n c 0 0 Try.underlying22
    have hr := R.2
    have hl := R.1
    have hown := World.ownsRow_lit (base := w.heap.size) (e := 26) (size := 1) w #[] 0 (Nat.le_refl _) (by unfold maxLen; omega) rfl
    have HR := hide hr
    have HL := hide hl
    clear R hnil hr hl
    go_enter Try.func8, Try.ntmps8
    go_wp2_with (at_builtin; refine wpList_append_own _ rfl _ _ 22 rfl w.heap.size 26 i0 (.int .u16 0) 1 2 Try.underlying22 hi hz0 hz1 hz2 rfl (by decide) _ _ _ rfl hown ad n c xs rfl (unhide HL) ?c1 h1 (by unfold maxLen; omega) (by omega) (by simp) ?_)
    case c1 =>
      intro j u hj
      have hjn : j < n * 1 := by
        have := (List.getElem?_eq_some_iff.1 hj).1
        have := unhide HL
        omega
      obtain ⟨b, o, e, hb, hc⟩ := unhide HR (by omega)
      injection e with e
      subst e
      have hj' := (hc j hjn).trans hj
      have : (⟨b, o, none⟩ : Addr).add j = ⟨b, o + j, none⟩ := by
        unfold Addr.add
        split
        · rename_i h0; simp [h0]
        · rfl
      rw [this]
      exact (World.cell?_alloc_lt _ _ _ hb).trans hj'
    intro v' w' hown' hgrow _
    have hown2 : w'.ownsRow w.heap.size 26 1 v' n xs := by simpa using hown'
    have E1 : Ext w w' := ((Ext.refl w).alloc _).grown hgrow (fun q hq => by simp [Value.ownBlock] at hq; omega)
    clear hgrow
    go_wp2
    go_ret
    exact ⟨⟨_, rfl, hown2⟩, E1⟩

theorem clip_u16 (A : Option Addr) (n c : Nat) (w : World) (h1 : n ≤ c) (h2 : (c : Int) ≤ 9223372036854775807) (hA : A = none → n = 0 ∧ c = 0) :
    Calls Try.prog 50 #[.slice A n c] w fun e w' => e = .returned (.slice A n n) ∧ w' = w := by
  have h3 : (n : Int) ≤ (c : Int) := by omega
  cases A with
  | none =>
    obtain ⟨rfl, rfl⟩ := hA rfl
    go_enter Try.func50, Try.ntmps50
    go_wp2
    go_ret
    exact ⟨rfl, rfl⟩
  | some a =>
    clear hA
    go_enter Try.func50, Try.ntmps50
    go_wp2
    go_ret
    exact ⟨rfl, rfl⟩

theorem compact_le (l : List Nat) : (Lib.compact l).length ≤ l.length := by
  unfold Lib.compact Lib.compactUpTo
  rw [List.length_map]
  exact Nat.le_trans (List.length_filter_le _ _) (by simp)
theorem compact_u16 (base g n c : Nat) (l : List Nat) (w : World) (M : Made w base 26 1 (.slice (some ⟨g, 0, none⟩) n c) n (nats .u16 l)) (hn : n ≤ 1000) :
    Calls Try.prog 51 #[.slice (some ⟨g, 0, none⟩) n c] w fun e w' => e = .returned (.slice (some ⟨g, 0, none⟩) (Lib.compact l).length c) ∧
      Made w' base 26 1 (.slice (some ⟨g, 0, none⟩) (Lib.compact l).length c) (Lib.compact l).length (nats .u16 (Lib.compact l)) ∧ Oth g w w' := by
  have hl := made_len M
  have hcl := compact_le l
  have hnc : n ≤ c := by
    rcases M.2 with ⟨h2, -⟩ | ⟨g', c', cur, h3, h4, h5, h6, h7, h8, h9⟩
    · cases h2
    · injection h3 with _ _ h3'; omega
  have hsz : l.toArray.size = n := by simpa using hl
  have C := Try.slices_Compact enc16 enc16_one eql16 neq16 0 Try.zeroValue26 g 0 c l.toArray w (made_holds M) (by omega) (by omega)
  rw [hsz] at C
  refine C.mono ?_
  rintro e w' ⟨rfl, q, rfl⟩
  have e1 : Lib.compactUpTo l.toArray n = Lib.compact l := by unfold Lib.compact; rw [hl]
  rw [e1]
  have hlen : (Lib.compact l ++ List.replicate (n - (Lib.compact l).length) 0).length = n := by simp; omega
  obtain ⟨M2, O2⟩ := made_put M hlen q
  refine ⟨rfl, ?_, O2⟩
  obtain ⟨h1, h2⟩ := M2
  refine ⟨by rw [nats_length, Nat.mul_one], ?_⟩
  rcases h2 with ⟨h2, -⟩ | ⟨g', c', cur, h3, h4, h5, h6, h7, h8, h9⟩
  · cases h2
  · injection h3 with h3 _ h3'
    simp only [Option.some.injEq, Addr.mk.injEq, and_true] at h3
    subst h3; subst h3'
    refine .inr ⟨g, c, cur, rfl, h4, h5, by omega, h7, h8, ?_⟩
    have := congrArg (List.take (Lib.compact l).length) h9
    rw [List.take_take, nats_take, List.take_left' rfl] at this
    rw [show min (Lib.compact l).length (n * 1) = (Lib.compact l).length * 1 by omega] at this
    exact this
theorem rev_u16 (base g n c : Nat) (l : List Nat) (w : World) (M : Made w base 26 1 (.slice (some ⟨g, 0, none⟩) n c) n (nats .u16 l)) (hn : n ≤ 1000) :
    Calls Try.prog 53 #[.slice (some ⟨g, 0, none⟩) n c] w fun e w' => e = .returned (.tuple #[]) ∧ Made w' base 26 1 (.slice (some ⟨g, 0, none⟩) n c) n (nats .u16 l.reverse) ∧ Oth g w w' := by
  have hl := made_len M
  have C := Try.slices_Reverse enc16 enc16_one g 0 c l w (made_holds M) (by omega)
  rw [hl] at C
  refine C.mono ?_
  rintro e w' ⟨rfl, q, rfl⟩
  obtain ⟨M2, O2⟩ := made_put M (m := l.reverse) (by simpa using hl) q
  exact ⟨rfl, M2, O2⟩
/-- What is not empty lies in a block of its own. -/
theorem made_some {w : World} {base n : Nat} {v : Value} {l : List Nat} (M : Made w base 26 1 v n (nats .u16 l)) (hn : 0 < n) : ∃ g c, v = .slice (some ⟨g, 0, none⟩) n c := by
  rcases M.2 with ⟨-, h⟩ | ⟨g, c, cur, h, -⟩
  · omega
  · exact ⟨g, c, h⟩
theorem u16Q : EInfo Try.prog 22 26 (.int .u16 0) 1 2 := EInfo.mk_ Try.underlying22 (by kernel_rfl) rfl (by omega)

set_option maxRecDepth 100000 in
set_option maxHeartbeats 4000000 in
theorem words_ok (A : Option Addr) (n c : Nat) (l : List Nat) (w : World) (R : Row w A n 1 (nats .u16 l)) (hn : n ≤ 6) (hl : ∀ x ∈ l, x < 2 ^ 12) :
    Calls Try.prog 29 #[.slice A n c] w fun e w' => (∃ v, e = .returned v ∧ Made w' w.heap.size 26 1 v (Wm.wl l).length (nats .u16 (Wm.wl l))) ∧ Ext w w' := by
  have hlen := R.numN
  have HR := hide R
  have HL := hide (show ∀ k, k < n → l.getD k 0 < 4096 from fun k hk => hl _ (getD_mem l 0 (by omega)))
  have HT := hide (fun k (hk : k < n) => Wm.ws_take l (k := k) (by omega))
  have HWL := hide (fun k => show (Wm.ws (l.take k)).length = 2 ^ (l.take k).length from Wm.ws_len _)
  have HWB := hide (show ∀ k, ∀ x ∈ Wm.ws (l.take k), x < 2 ^ 12 from fun k => Wm.ws_lt fun g hg => hl g (List.mem_of_mem_take hg))
  have HLN := hide hlen
  clear R hl hlen
  go_enter Try.func29, Try.ntmps29
  go_wp2
  have HO0 := hide (show (w.alloc (.cells #[.int .u16 0] 26)).ownsRow w.heap.size 26 1 (.slice (some ⟨w.heap.size, 0, none⟩) 1 1) 1 (nats .u16 [0]) from World.ownsRow_lit (base := w.heap.size) (e := 26) (size := 1) w #[.int .u16 0] 1 (Nat.le_refl _) (by unfold maxLen; omega) rfl)
  go_loopw [3, 11] (fun v i wr => ∃ k : Nat, k ≤ n ∧ i = .int .i64 k ∧ Hid (wr.ownsRow w.heap.size 26 1 v (Wm.ws (l.take k)).length (nats .u16 (Wm.ws (l.take k)))) ∧ (Ext w wr ∧ True)) (fun _ i _ => n - (intOf i).toNat)
  case atStart => exact ⟨0, Nat.zero_le _, rfl, HO0, (by repeat (first | exact Ext.refl w | refine Ext.alloc ?_ _ | refine Ext.drew ?_ | refine Ext.drewN ?_ _ | (refine Ext.trans ?_ (plus_ext _ _)) | (refine Ext.setCell ?_ (by have := Ext.size Ext.refl w; simp; omega) _))), trivial⟩
  case round =>
    clear HO0
    obtain ⟨k, hk, rfl, HO, hE⟩ := hrel
    by_cases hlt : k < n
    · obtain ⟨b, o, rfl, hb, hc⟩ := ((unhide HR).keep hE.1).nat hlt
      have hg := unhide HL k hlt
      have HTk := hide (unhide HT k hlt)
      have hlo := unhide HWL k
      have hlk : (l.take k).length = k := by rw [List.length_take, unhide HLN]; omega
      rw [hlk] at hlo
      have h32 : 2 ^ k ≤ 32 := by
        have : 2 ^ k ≤ 2 ^ 5 := Nat.pow_le_pow_right (by omega) (by omega)
        omega
      have HOB := hide (show ∀ i, i < (Wm.ws (l.take k)).length → (Wm.ws (l.take k)).getD i 0 < 4096 from fun i hi => unhide HWB k _ (getD_mem _ 0 hi))
      generalize l.getD k 0 = x at *
      generalize Wm.ws (l.take k) = O at *
      have hOn : O.length ≤ 32 := by omega
      have hO1 : 1 ≤ O.length := by rw [hlo]; exact Nat.one_le_two_pow
      clear hlo hlk h32
      obtain ⟨Z, hZ⟩ : ∃ Z, Z = O.map (fun w => w ^^^ x) := ⟨_, rfl⟩
      have HZL := hide (show Z.length = O.length by rw [hZ, List.length_map])
      have HZG := hide (show ∀ j, j < O.length → Z.getD j 0 = O.getD j 0 ^^^ x from fun j hj => by
        rw [hZ]; simp [List.getD_eq_getElem?_getD, hj])
      rw [← hZ] at HTk
      clear hZ
      obtain ⟨g, c', rfl⟩ := made_some (Made.of_own (unhide HO)) (by omega)
      obtain ⟨A2, c2, hv, R2, -, -, -⟩ := (Made.of_own (unhide HO)).open_
      obtain ⟨rfl, -, rfl⟩ := (Value.slice.injEq ..).mp hv
      have C := hide (clone_u16 (some ⟨g, 0, none⟩) O.length c' (nats .u16 O) wr R2 (fun u hu => by
        obtain ⟨y, -, rfl⟩ := List.mem_map.1 hu
        rfl) (by omega) (fun h => by cases h))
      clear hv R2
      go_wp2_with fail
      refine (unhide C).mono ?_
      rintro e w2 ⟨⟨v2, rfl, O2⟩, E2⟩
      obtain ⟨A3, c3, rfl, R3, -, -, hne3⟩ := (Made.of_own O2).open_
      have hgl := ((unhide HO).lt g rfl).2
      have HNE := hide (show ∀ b o, A3 = some ⟨b, o, none⟩ → (Value.slice (some ⟨g, 0, none⟩) O.length c').ownBlock ≠ some b from fun b o e h => by
        have := (hne3 b o e).1
        simp only [Value.ownBlock, Option.some.injEq] at h
        omega)
      have HR3 := hide R3
      have HO2 := hide (row_ext (unhide HO) E2)
      have hE2 := And.intro (hE.1.trans E2) trivial
      clear O2 R3 C HO hE E2 hne3 hgl
      go_wp2
      go_loopw [3, 18] (fun v i wz => ∃ j : Nat, j ≤ O.length ∧ i = .int .i64 j ∧ Hid (wz.ownsRow w.heap.size 26 1 v (O.length + j) (nats .u16 (O ++ Z.take j))) ∧ Hid (OutOf w2 (.slice (some ⟨g, 0, none⟩) O.length c') wz v) ∧ (Ext w wz ∧ True)) (fun _ i _ => O.length - (intOf i).toNat)
      case atStart => exact ⟨0, Nat.zero_le _, rfl, by simpa using HO2, hide (OutOf.refl _ _), hE2.1, trivial⟩
      case round =>
        clear HO2 hE2
        obtain ⟨j, hj, rfl, HO, HOF, hE⟩ := hrel
        by_cases hjl : j < O.length
        · obtain ⟨b3, o3, hA3, hb3, hc3⟩ := ((unhide HOF).row (unhide HR3) (unhide HNE)).nat hjl
          have hy := unhide HOB j hjl
          have hsn := take_snoc Z (0 : Nat) (k := j) (by have := unhide HZL; omega)
          rw [unhide HZG j hjl] at hsn
          have HSN := hide hsn
          generalize O.getD j 0 = y at *
          have hxor := u16_xor_nat y x (by omega) (by omega)
          have hext := hE.1
          have hbd : (O.length + j + 1) * 2 ≤ 140737488355328 ∧ O.length + j + 1 ≤ 9223372036854775807 := by omega
          clear hsn
          subst hA3
          go_wp2_with (at_builtin; refine wpList_apx rfl _ _ 22 (by rfl) 26 u16Q hext _ _ _ _ (by rfl) (unhide HO) 1 1 (by rfl) rfl rfl hbd (unhide HOF) ?_)
          intro v' w' hown' hext' hout'
          have HO2 := hide (show w'.ownsRow w.heap.size 26 1 v' (O.length + (j + 1)) (nats .u16 (O ++ Z.take (j + 1))) by
            rw [unhide HSN, ← List.append_assoc, ← nats_append]
            exact hown')
          have HOF2 := hide hout'
          have hE2 := And.intro hext' trivial
          clear hown' hout' hext' hext hE hbd
          go_wp2
          go_roundw
          case rel => exact ⟨j + 1, by omega, by go_num, HO2, HOF2, hE2⟩
          case measure => simp [intOf]; omega
        · obtain rfl : j = O.length := by omega
          have HO2 := hide (show wr.ownsRow w.heap.size 26 1 _ (Wm.ws (l.take (k + 1))).length (nats .u16 (Wm.ws (l.take (k + 1)))) by
            have := unhide HO
            rw [← unhide HZL, List.take_length, unhide HZL] at this
            rw [unhide HTk, List.length_append, unhide HZL]
            exact this)
          go_wp2
          go_roundw
          case rel => exact ⟨k + 1, by omega, by go_num, HO2, hE.1, trivial⟩
          case measure => simp [intOf]; omega
    · obtain rfl : k = n := by omega
      have hlo := unhide HWL k
      have hlk : l.take k = l := by rw [← unhide HLN, List.take_length]
      rw [hlk] at HO hlo
      rw [unhide HLN] at hlo
      have h64 : 2 ^ k ≤ 64 := by
        have : 2 ^ k ≤ 2 ^ 6 := Nat.pow_le_pow_right (by omega) (by omega)
        omega
      have hO1 : 1 ≤ 2 ^ k := Nat.one_le_two_pow
      have HW := hide (show Lib.compact (srt (Wm.ws l)) = Wm.wl l from rfl)
      have hsl : (srt (Wm.ws l)).length = (Wm.ws l).length := (srt_perm _).length_eq
      generalize Wm.ws l = O at *
      obtain ⟨g, c', rfl⟩ := made_some (Made.of_own (unhide HO)) (by omega)
      have C1 := hide (sort_u16 w.heap.size g O.length c' O wr (Made.of_own (unhide HO)) (by omega))
      have hgl := ((unhide HO).lt g rfl).1
      have hO64 : O.length ≤ 64 := by omega
      clear HO hlo hlk h64 hO1
      go_wp2_with fail
      refine (unhide C1).mono ?_
      rintro e w2 ⟨rfl, M2, O2⟩
      have C2 := hide (compact_u16 w.heap.size g O.length c' (srt O) w2 M2 (by omega))
      rw [unhide HW] at C2
      have hE2 := And.intro (O2.ext hE.1 hgl) trivial
      clear M2 O2 hE C1
      go_wp2_with fail
      refine (unhide C2).mono ?_
      rintro e w3 ⟨rfl, M3, O3⟩
      have hE3 := And.intro (O3.ext hE2.1 hgl) trivial
      obtain ⟨A4, c4, hv, -, hnc, hcm, -⟩ := M3.open_
      obtain ⟨rfl, -, rfl⟩ := (Value.slice.injEq ..).mp hv
      have C3 := hide (fun w : World => clip_u16 (some ⟨g, 0, none⟩) (Wm.wl l).length c' w hnc (by unfold maxLen at hcm; omega) (fun h => by cases h))
      have HM := hide M3.clip
      clear M3 O3 hE2 C2 hv hnc hcm
      go_wp2_with fail
      refine (unhide C3 _).mono ?_
      rintro e w4 ⟨rfl, rfl⟩
      go_wp2
      go_ret
      exact ⟨⟨_, rfl, unhide HM⟩, hE3.1⟩
end Go.Proofs.Ytkebldjepdhioaa
