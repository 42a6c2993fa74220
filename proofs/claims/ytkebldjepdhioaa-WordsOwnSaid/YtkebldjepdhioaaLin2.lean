/-
  The contract of linear.base.
-/
import Derived.Test.YtkebldjepdhioaaLin1
set_option linter.unusedVariables false
set_option linter.unusedSimpArgs false
namespace Wm
/-- The first i of Z, the others of O. -/
def mix (Z O : List Nat) (i : Nat) : List Nat := mkS O.length fun k => if k < i then Z.getD k 0 else O.getD k 0
theorem mix_len (Z O : List Nat) (i : Nat) : (mix Z O i).length = O.length := mkS_length _ _
theorem mix_get (Z : List Nat) {O : List Nat} {i : Nat} (hi : i < O.length) : (mix Z O i).getD i 0 = O.getD i 0 := by
  unfold mix; rw [mkS_get _ hi, if_neg (by omega)]
theorem mix_set {Z O : List Nat} {i : Nat} (hi : i < O.length) {x : Nat} (hx : Z.getD i 0 = x) : (mix Z O i).set i x = mix Z O (i + 1) := by
  unfold mix
  apply List.ext_getElem (by simp [mkS])
  intro k h1 h2
  simp only [mkS, List.getElem_set, List.getElem_map, List.getElem_range]
  by_cases e : i = k
  · rw [if_pos e, if_pos (by omega), ← hx, e]
  · rw [if_neg e]
    by_cases c : k < i
    · rw [if_pos c, if_pos (by omega)]
    · rw [if_neg c, if_neg (by omega)]
theorem mix_same {Z O : List Nat} {i : Nat} (hx : Z.getD i 0 = O.getD i 0) : mix Z O i = mix Z O (i + 1) := by
  unfold mix
  refine mkS_congr fun k _ => ?_
  by_cases e : k = i
  · subst e; rw [if_neg (by omega), if_pos (by omega), hx]
  · by_cases c : k < i
    · rw [if_pos c, if_pos (by omega)]
    · rw [if_neg c, if_neg (by omega)]
theorem mix_zero (Z O : List Nat) : mix Z O 0 = O := by
  unfold mix
  rw [mkS_congr (g := fun k => O.getD k 0) fun k _ => if_neg (by omega)]
  exact mkS_self O
theorem mix_all {Z O : List Nat} (h : Z.length = O.length) : mix Z O O.length = Z := by
  unfold mix
  rw [mkS_congr (g := fun k => Z.getD k 0) fun k hk => if_pos hk, ← h]
  exact mkS_self Z
theorem bitlen_all : (List.range 4096).all (fun b => b == 0 || (Go.Lib.bitLen b == b.log2 + 1 && decide (b.log2 ≤ 11))) = true := by decide +kernel
theorem bitlen_log (b : Nat) (hb : b < 4096) (h0 : b ≠ 0) : Go.Lib.bitLen b = b.log2 + 1 ∧ b.log2 ≤ 11 := by
  have := List.all_eq_true.1 bitlen_all b (List.mem_range.2 hb)
  simpa [h0] using this
end Wm
namespace Go.Proofs.Ytkebldjepdhioaa
open Go.RowKit Go.BigFrame Go.Sort

theorem own_set16 {w : World} {base n c g : Nat} {xs : List Nat} (h : w.ownsRow base 26 1 (.slice (some ⟨g, 0, none⟩) n c) n (nats .u16 xs)) {j : Nat} (hj : j < n) (x : Nat) :
    (w.setCell ⟨g, j, none⟩ (.int .u16 (x : Int))).ownsRow base 26 1 (.slice (some ⟨g, 0, none⟩) n c) n (nats .u16 (xs.set j x)) := by
  obtain ⟨h1, h2⟩ := h
  refine ⟨by rw [← nats_set, List.length_set, h1], ?_⟩
  rcases h2 with ⟨h2, -⟩ | ⟨g', c', cur, h3, h4, h5, h6, h7, h8, h9⟩
  · cases h2
  · injection h3 with h3 _ h3'
    simp only [Option.some.injEq, Addr.mk.injEq, and_true] at h3
    subst h3; subst h3'
    refine .inr ⟨g, c, cur.setIfInBounds j (.int .u16 (x : Int)), rfl, h4, ?_, h6, h7, by simpa using h8, ?_⟩
    · simp [World.setCell, Array.getElem?_modify, h5]
    · rw [Array.toList_setIfInBounds, ← nats_set, ← h9, List.take_set]
theorem made_case {w : World} {base n : Nat} {v : Value} {xs : List Value} {e : TypeId} (M : Made w base e 1 v n xs) : (v = .slice none 0 0 ∧ n = 0) ∨ ∃ g c, v = .slice (some ⟨g, 0, none⟩) n c := by
  rcases M.2 with h | ⟨g, c, cur, h, -⟩
  · exact .inl h
  · exact .inr ⟨g, c, h⟩
set_option maxRecDepth 100000 in
theorem insertion_nil (w : World) : Calls Try.prog 61 #[.slice none 0 0, .int .i64 0, .int .i64 0] w fun e w' => e = .returned (.tuple #[]) ∧ w' = w := by
  go_enter Try.func61, Try.ntmps61
  go_wp2
  go_loopw [6] (fun i wr => i = .int .i64 1 ∧ wr = w) (fun _ _ => 0)
  case atStart => exact ⟨rfl, rfl⟩
  case round =>
    obtain ⟨rfl, rfl⟩ := hrel
    go_wp2
    go_end0
    exact ⟨rfl, rfl⟩
set_option maxRecDepth 100000 in
theorem pdq_nil (w : World) : Calls Try.prog 58 #[.slice none 0 0, .int .i64 0, .int .i64 0, .int .i64 0] w fun e w' => e = .returned (.tuple #[]) ∧ w' = w := by
  have C := hide (fun w : World => insertion_nil w)
  go_enter Try.func58, Try.ntmps58
  go_wp2
  go_loopw [1, 2] (fun a b wr => a = .int .i64 0 ∧ b = .int .i64 0 ∧ wr = w) (fun _ _ _ => 0)
  case atStart => exact ⟨rfl, rfl, rfl⟩
  case round =>
    obtain ⟨rfl, rfl, rfl⟩ := hrel
    go_wp2_with fail
    refine (unhide C _).mono ?_
    rintro e w2 ⟨rfl, rfl⟩
    go_wp2
    refine bodyPost_ret (results_none rfl _ _ _) rfl ?_
    exact ⟨rfl, rfl⟩
set_option maxRecDepth 100000 in
theorem sort_nil16 (w : World) : Calls Try.prog 49 #[.slice none 0 0] w fun e w' => e = .returned (.tuple #[]) ∧ w' = w := by
  have C := hide (fun w : World => pdq_nil w)
  have CL := hide (fun w : World => Try.bits_Len 0 w (by omega) (by omega))
  rw [show Lib.bitLen (0 : Int).toNat = 0 by decide] at CL
  go_enter Try.func49, Try.ntmps49
  go_wp2_with fail
  refine (unhide CL _).mono ?_
  rintro e w' ⟨rfl, rfl⟩
  go_wp2_with fail
  refine (unhide C _).mono ?_
  rintro e w2 ⟨rfl, rfl⟩
  go_wp2
  go_end0
  exact ⟨rfl, rfl⟩

set_option maxRecDepth 100000 in
set_option maxHeartbeats 8000000 in
theorem base_ok (A : Option Addr) (n c : Nat) (l : List Nat) (w : World) (R : Row w A n 1 (nats .u16 l)) (hn : n ≤ 64) (hl : ∀ x ∈ l, x < 2 ^ 12) :
    Calls Try.prog 30 #[.slice A n c] w fun e w' => (∃ v, e = .returned v ∧ Made w' w.heap.size 26 1 v (Wm.bl l).length (nats .u16 (Wm.bl l))) ∧ Ext w w' := by
  have hlen := R.numN
  have HR := hide R
  have HL := hide (show ∀ k, k < n → l.getD k 0 < 4096 from fun k hk => hl _ (getD_mem l 0 (by omega)))
  have HT := hide (fun k (hk : k < n) => Wm.bs_take l (k := k) (by omega))
  have hlt' : ∀ k, ∀ g ∈ l.take k, g < 2 ^ 12 := fun k g hg => hl g (List.mem_of_mem_take hg)
  have HBL := hide (fun k => Wm.bs_len (hlt' k))
  have HBB := hide (fun k => Wm.bs_lt (hlt' k))
  have HBR := hide (fun k => Wm.bs_red (l.take k))
  have HLN := hide hlen
  have CL := hide (fun (b : Nat) (hb : b < 4096) (w : World) => Try.bits_Len16 (b : Int) w (by omega) (by omega))
  clear R hl hlen hlt'
  go_enter Try.func30, Try.ntmps30
  go_wp2
  go_loopw [3, 12] (fun v i wr => ∃ k : Nat, k ≤ n ∧ i = .int .i64 k ∧ Hid (wr.ownsRow w.heap.size 26 1 v (Wm.bs (l.take k)).length (nats .u16 (Wm.bs (l.take k)))) ∧ (Ext w wr ∧ True)) (fun _ i _ => n - (intOf i).toNat)
  case atStart => exact ⟨0, Nat.zero_le _, rfl, hide (World.ownsRow_nil _ _ _ _), (by repeat (first | exact Ext.refl w | refine Ext.alloc ?_ _ | refine Ext.drew ?_ | refine Ext.drewN ?_ _ | (refine Ext.trans ?_ (plus_ext _ _)) | (refine Ext.setCell ?_ (by have := Ext.size Ext.refl w; simp; omega) _))), trivial⟩
  case round =>
    obtain ⟨k, hk, rfl, HO, hE⟩ := hrel
    by_cases hlt : k < n
    · obtain ⟨b, o, rfl, hb, hc⟩ := ((unhide HR).keep hE.1).nat hlt
      have hg := unhide HL k hlt
      have HTk := hide (unhide HT k hlt)
      have hO12 := unhide HBL k
      have HRD := hide (unhide HBR k)
      have HOB := hide (show ∀ i, i < (Wm.bs (l.take k)).length → (Wm.bs (l.take k)).getD i 0 < 4096 ∧ (Wm.bs (l.take k)).getD i 0 ≠ 0 from fun i hi => ⟨unhide HBB k _ (getD_mem _ 0 hi), (unhide HBR k).nz _ (getD_mem _ 0 hi)⟩)
      generalize l.getD k 0 = x at *
      generalize Wm.bs (l.take k) = O at *
      have HRT := hide (fun i (hi : i < O.length) => Wm.rd_take O x hi)
      obtain ⟨A2, c2, rfl, R2, -, -, -⟩ := (Made.of_own (unhide HO)).open_
      have HRDX := hide (show ∀ i, i ≤ O.length → Wm.rd (O.take i) x < 4096 from fun i => by
        induction i with
        | zero => intro _; exact hg
        | succ i ih =>
          intro hi
          rw [unhide HRT i (by omega)]
          unfold Wm.rd1
          split
          · exact Nat.xor_lt_two_pow (n := 12) (ih (by omega)) (unhide HOB i (by omega)).1
          · exact ih (by omega))
      have HR2 := hide R2
      clear R2
      go_wp2
      go_loopw [5, 18] (fun v i wz => ∃ j : Nat, j ≤ O.length ∧ i = .int .i64 j ∧ v = .int .u16 ((Wm.rd (O.take j) x : Nat) : Int) ∧ wz = wr) (fun _ i _ => O.length - (intOf i).toNat)
      case atStart => exact ⟨0, Nat.zero_le _, rfl, rfl, rfl⟩
      case round =>
        obtain ⟨j, hj, rfl, rfl, hw⟩ := hrel
        subst hw
        by_cases hjl : j < O.length
        · obtain ⟨b2, o2, rfl, hb2, hc2⟩ := (unhide HR2).nat hjl
          obtain ⟨ho1, ho2⟩ := unhide HOB j hjl
          have hrj := unhide HRDX j hj
          have HST := hide (unhide HRT j hjl)
          generalize O.getD j 0 = b0 at *
          generalize hU : Wm.rd (O.take j) x = u at *
          clear hU
          obtain ⟨e1, e2⟩ := Wm.bitlen_log b0 ho1 ho2
          have C := hide (fun w : World => unhide CL b0 ho1 w)
          rw [Int.toNat_natCast, e1] at C
          generalize hK : b0.log2 = K at *
          have hdiv : (u : Int) / 2 ^ K = ((u / 2 ^ K : Nat) : Int) := by rw [Int.natCast_ediv, Int.natCast_pow]; rfl
          have hdl : u / 2 ^ K ≤ u := Nat.div_le_self _ _
          obtain ⟨y, hy⟩ : ∃ y, y = u / 2 ^ K % 2 := ⟨_, rfl⟩
          have hB : bits BinOp.and IntKind.u16 ((u : Int) / 2 ^ K) 1 = (y : Int) := by rw [hdiv, u16_and_one _ (by omega), hy]
          have hxor := u16_xor_nat u b0 (by omega) (by omega)
          have HS2 := hide (show Wm.rd (O.take (j + 1)) x = if y = 1 then u ^^^ b0 else u by
            rw [unhide HST]
            unfold Wm.rd1
            rw [hK, Nat.testBit_eq_decide_div_mod_eq, ← hy]
            by_cases h : y = 1 <;> simp [h])
          have hyl : y < 2 := by rw [hy]; exact Nat.mod_lt _ (by omega)
          clear hy hK hdiv e1
          by_cases hy1 : y = 1
          · subst hy1
            rw [if_pos rfl] at HS2
            go_wp2_with fail
            refine (unhide C _).mono ?_
            rintro e w2 ⟨rfl, rfl⟩
            go_wp2
            go_roundw
            case rel => exact ⟨j + 1, by omega, by go_num, by rw [unhide HS2], trivial⟩
            case measure => simp [intOf]; omega
          · rw [if_neg hy1] at HS2
            obtain rfl : y = 0 := by omega
            go_wp2_with fail
            refine (unhide C _).mono ?_
            rintro e w2 ⟨rfl, rfl⟩
            go_wp2
            go_roundw
            case rel => exact ⟨j + 1, by omega, by go_num, by rw [unhide HS2], trivial⟩
            case measure => simp [intOf]; omega
        · obtain rfl : j = O.length := by omega
          have hu := unhide HRDX O.length (Nat.le_refl _)
          rw [List.take_length] at hu ⊢
          have HSTT := hide (show Wm.st O x = if Wm.rd O x = 0 then O else O.map (Wm.up1 (Wm.rd O x)) ++ [Wm.rd O x] from rfl)
          generalize Wm.rd O x = u at *
          by_cases hu0 : u = 0
          · subst hu0
            rw [if_pos rfl] at HSTT
            have HO2 := hide (show wr.ownsRow w.heap.size 26 1 (.slice A2 O.length c2) (Wm.bs (l.take (k + 1))).length (nats .u16 (Wm.bs (l.take (k + 1)))) by rw [unhide HTk, unhide HSTT]; exact unhide HO)
            go_wp2
            go_roundw
            case rel => exact ⟨k + 1, by omega, by go_num, HO2, hE.1, trivial⟩
            case measure => simp [intOf]; omega
          · rw [if_neg hu0] at HSTT
            have hu0B : ((u : Int) == 0) = false := by rw [beq_eq_false_iff_ne]; omega
            have hu0N : ¬ (u : Int) = 0 := by omega
            obtain ⟨Z, hZ⟩ : ∃ Z, Z = O.map (Wm.up1 u) := ⟨_, rfl⟩
            have HZL := hide (show Z.length = O.length by rw [hZ, List.length_map])
            have HZG := hide (show ∀ j, j < O.length → Z.getD j 0 = Wm.up1 u (O.getD j 0) from fun j hj => by
              rw [hZ]; simp [List.getD_eq_getElem?_getD, hj])
            rw [← hZ] at HSTT
            obtain ⟨e1, e2⟩ := Wm.bitlen_log u hu hu0
            have C := hide (fun w : World => unhide CL u hu w)
            rw [Int.toNat_natCast, e1] at C
            obtain ⟨K, hK⟩ : ∃ K, K = u.log2 := ⟨_, rfl⟩
            rw [← hK] at C e2
            have HK := hide hK
            have HM0 := hide (show wr.ownsRow w.heap.size 26 1 (.slice A2 O.length c2) O.length (nats .u16 (Wm.mix Z O 0)) by rw [Wm.mix_zero]; exact unhide HO)
            clear hZ hK e1 HO HR2
            go_wp2
            go_loopw [37] (fun i wz => ∃ j : Nat, j ≤ O.length ∧ i = .int .i64 j ∧ Hid (wz.ownsRow w.heap.size 26 1 (.slice A2 O.length c2) O.length (nats .u16 (Wm.mix Z O j))) ∧ (Ext w wz ∧ True)) (fun i _ => O.length - (intOf i).toNat)
            case atStart => exact ⟨0, Nat.zero_le _, rfl, HM0, hE.1, trivial⟩
            case round =>
              clear HM0 hE
              obtain ⟨j, hj, rfl, HM, hE⟩ := hrel
              by_cases hjl : j < O.length
              · obtain ⟨g2, c3, hv⟩ := made_some (Made.of_own (unhide HM)) (by omega)
                obtain ⟨rfl, -, rfl⟩ := (Value.slice.injEq ..).mp hv
                have hc2 := (Made.of_own (unhide HM)).nat (k := j) hjl
                have hf2 := (Made.of_own (unhide HM)).frozen j
                have hgb := ((unhide HM).lt g2 rfl).1
                rw [Wm.mix_get Z hjl] at hc2
                obtain ⟨ho1, ho2⟩ := unhide HOB j hjl
                have HZJ := hide (unhide HZG j hjl)
                have HMS := hide (fun v (hv : Z.getD j 0 = v) => Wm.mix_set (Z := Z) (O := O) hjl hv)
                have HMM := hide (fun (hv : Z.getD j 0 = O.getD j 0) => Wm.mix_same (Z := Z) (O := O) hv)
                generalize O.getD j 0 = b0 at *
                have hdiv : (b0 : Int) / 2 ^ K = ((b0 / 2 ^ K : Nat) : Int) := by rw [Int.natCast_ediv, Int.natCast_pow]; rfl
                have hdl : b0 / 2 ^ K ≤ b0 := Nat.div_le_self _ _
                obtain ⟨y, hy⟩ : ∃ y, y = b0 / 2 ^ K % 2 := ⟨_, rfl⟩
                have hB : bits BinOp.and IntKind.u16 ((b0 : Int) / 2 ^ K) 1 = (y : Int) := by rw [hdiv, u16_and_one _ (by omega), hy]
                have hxor := u16_xor_nat b0 u (by omega) (by omega)
                have HZ2 := hide (show Z.getD j 0 = if y = 1 then b0 ^^^ u else b0 by
                  rw [unhide HZJ]
                  unfold Wm.up1
                  rw [← unhide HK, Nat.testBit_eq_decide_div_mod_eq, ← hy]
                  by_cases h : y = 1 <;> simp [h])
                have hyl : y < 2 := by rw [hy]; exact Nat.mod_lt _ (by omega)
                clear hy hdiv hv
                by_cases hy1 : y = 1
                · subst hy1
                  rw [if_pos rfl] at HZ2
                  have HM2 := hide (show (wr.setCell ⟨g2, j, none⟩ (.int .u16 ((b0 ^^^ u : Nat) : Int))).ownsRow w.heap.size 26 1 (.slice (some ⟨g2, 0, none⟩) O.length c2) O.length (nats .u16 (Wm.mix Z O (j + 1))) by
                    rw [← unhide HMS _ (unhide HZ2)]
                    exact own_set16 (unhide HM) hjl _)
                  have hE2 := And.intro (hE.1.setCell (p := ⟨g2, j, none⟩) hgb (.int .u16 ((b0 ^^^ u : Nat) : Int))) trivial
                  clear HM hE
                  go_wp2_with fail
                  refine (unhide C _).mono ?_
                  rintro e w2 ⟨rfl, rfl⟩
                  go_wp2
                  go_roundw
                  case rel => exact ⟨j + 1, by omega, by go_num, HM2, hE2⟩
                  case measure => simp [intOf]; omega
                · rw [if_neg hy1] at HZ2
                  have HM2 := hide (show wr.ownsRow w.heap.size 26 1 (.slice (some ⟨g2, 0, none⟩) O.length c2) O.length (nats .u16 (Wm.mix Z O (j + 1))) by
                    rw [← unhide HMM (unhide HZ2)]
                    exact unhide HM)
                  obtain rfl : y = 0 := by omega
                  clear HM
                  go_wp2_with fail
                  refine (unhide C _).mono ?_
                  rintro e w2 ⟨rfl, rfl⟩
                  go_wp2
                  go_roundw
                  case rel => exact ⟨j + 1, by omega, by go_num, HM2, hE⟩
                  case measure => simp [intOf]; omega
              · obtain rfl : j = O.length := by omega
                have HM2 := hide (show wr.ownsRow w.heap.size 26 1 (.slice A2 O.length c2) O.length (nats .u16 Z) by
                  have := unhide HM
                  rwa [Wm.mix_all (unhide HZL)] at this)
                have hext := hE.1
                have hbd : (O.length + 1) * 2 ≤ 140737488355328 ∧ O.length + 1 ≤ 9223372036854775807 := by omega
                clear HM
                go_wp2_with (at_builtin; refine wpList_app rfl _ _ 22 (by rfl) 26 u16Q hext _ _ _ _ (by rfl) (unhide HM2) 1 1 (by rfl) rfl rfl hbd ?_)
                intro v' w' hown' hext' _
                have HO2 := hide (show w'.ownsRow w.heap.size 26 1 v' (Wm.bs (l.take (k + 1))).length (nats .u16 (Wm.bs (l.take (k + 1)))) by
                  rw [unhide HTk, unhide HSTT, List.length_append, unhide HZL, ← nats_append]
                  exact hown')
                have hE2 := And.intro hext' trivial
                clear hown' hext' hext hE hbd HM2
                go_wp2
                go_roundw
                case rel => exact ⟨k + 1, by omega, by go_num, HO2, hE2⟩
                case measure => simp [intOf]; omega
    · obtain rfl : k = n := by omega
      have hlk : l.take k = l := by rw [← unhide HLN, List.take_length]
      have hO12 := unhide HBL k
      rw [hlk] at HO hO12
      have HW := hide (show (srt (Wm.bs l)).reverse = Wm.bl l from rfl)
      have hsl : (srt (Wm.bs l)).length = (Wm.bs l).length := (srt_perm _).length_eq
      have HWL := hide (show (Wm.bl l).length = (Wm.bs l).length by rw [← unhide HW, List.length_reverse, hsl])
      generalize Wm.bs l = O at *
      clear hlk
      rcases made_case (Made.of_own (unhide HO)) with ⟨rfl, h0⟩ | ⟨g, c', rfl⟩
      · have C1 := hide (sort_nil16 wr)
        have C2 := hide (Try.slices_Reverse_empty (α := Nat) none 0 wr)
        have C3 := hide (fun w : World => clip_u16 none 0 0 w (by omega) (by omega) (fun _ => ⟨rfl, rfl⟩))
        have HN := hide (show Wm.bl l = [] from List.eq_nil_of_length_eq_zero (by rw [unhide HWL]; exact h0))
        clear HO h0 hsl hO12
        go_wp2_with fail
        refine (unhide C1).mono ?_
        rintro e w2 ⟨rfl, rfl⟩
        go_wp2_with fail
        refine (unhide C2).mono ?_
        rintro e w2 ⟨rfl, h⟩
        subst h
        go_wp2_with fail
        refine (unhide C3 _).mono ?_
        rintro e w2 ⟨rfl, rfl⟩
        go_wp2
        go_ret
        exact ⟨⟨_, rfl, by rw [unhide HN]; exact Made.nil⟩, hE.1⟩
      · have C1 := hide (sort_u16 w.heap.size g O.length c' O wr (Made.of_own (unhide HO)) (by omega))
        have hgl := ((unhide HO).lt g rfl).1
        clear HO
        go_wp2_with fail
        refine (unhide C1).mono ?_
        rintro e w2 ⟨rfl, M2, O2⟩
        have C2 := hide (rev_u16 w.heap.size g O.length c' (srt O) w2 M2 (by omega))
        rw [unhide HW] at C2
        have hE2 := And.intro (O2.ext hE.1 hgl) trivial
        clear M2 O2 hE C1
        go_wp2_with fail
        refine (unhide C2).mono ?_
        rintro e w3 ⟨rfl, M3, O3⟩
        have hE3 := And.intro (O3.ext hE2.1 hgl) trivial
        obtain ⟨A4, c4, hv, -, hnc, hcm, -⟩ := M3.open_
        obtain ⟨rfl, -, rfl⟩ := (Value.slice.injEq ..).mp hv
        have C3 := hide (fun w : World => clip_u16 (some ⟨g, 0, none⟩) O.length c' w hnc (by unfold maxLen at hcm; omega) (fun h => by cases h))
        have HM := hide M3.clip
        clear M3 O3 hE2 C2 hv hnc hcm
        go_wp2_with fail
        refine (unhide C3 _).mono ?_
        rintro e w4 ⟨rfl, rfl⟩
        go_wp2
        go_ret
        exact ⟨⟨_, rfl, by rw [unhide HWL]; exact unhide HM⟩, hE3.1⟩
end Go.Proofs.Ytkebldjepdhioaa
