/-
  The contract of matrix.Mul.
-/
import Derived.Test.YtepkiicekcglhaaMx1
import Derived.Test.YtepkiicekcglhaaRack
import Derived.Test.YtepkiicekcglhaaReed0
import Derived.Test.YtepkiicekcglhaaMat6
import Derived.Deep.RegionLaw
import Derived.Deep.RegionHeld3
set_option linter.unusedVariables false
set_option linter.unusedSimpArgs false
namespace Wm
/-- A number of a product: so many terms. -/
def mulS (M N : Nat → Nat → Nat) (i j : Nat) : Nat → Nat
  | 0 => 0
  | t + 1 => mulS M N i j t ^^^ fmul (M i t) (N t j)
theorem mulS_lt {M N : Nat → Nat → Nat} (hM : ∀ i j, M i j < 256) (hN : ∀ i j, N i j < 256) (i j : Nat) : ∀ t, mulS M N i j t < 256
  | 0 => by show 0 < 256; omega
  | t + 1 => xor_lt (mulS_lt hM hN i j t) (fmul_lt (hM i t) (hN t j))
def mulT (k : Nat) (M N : Nat → Nat → Nat) : Nat → Nat → Nat := fun i j => mulS M N i j k
/-- Numbers as elements of the field. -/
def m8m (M : Nat → Nat → Nat) : Nat → Nat → B8 := fun i j => m8 (M i j)
theorem mulT_mm {M N : Nat → Nat → Nat} (hM : ∀ i j, M i j < 256) (hN : ∀ i j, N i j < 256) (k : Nat) : m8m (mulT k M N) = Fld.mm k (m8m M) (m8m N) := by
  funext i j
  show m8 (mulS M N i j k) = Fld.sm (fun t => Fld.ml (m8 (M i t)) (m8 (N t j))) k
  induction k with
  | zero => rfl
  | succ k ih =>
    show m8 (mulS M N i j k ^^^ fmul (M i k) (N k j)) = Fld.ad _ _
    rw [← ih]
    apply Subtype.ext
    show (mulS M N i j k ^^^ fmul (M i k) (N k j)) % 256 = (mulS M N i j k % 256) ^^^ (fmul (M i k % 256) (N k j % 256))
    rw [Nat.mod_eq_of_lt (mulS_lt hM hN i j k), Nat.mod_eq_of_lt (hM i k), Nat.mod_eq_of_lt (hN k j), Nat.mod_eq_of_lt (xor_lt (mulS_lt hM hN i j k) (fmul_lt (hM i k) (hN k j)))]
theorem m8m_inj {M N : Nat → Nat → Nat} (hM : ∀ i j, M i j < 256) (hN : ∀ i j, N i j < 256) {i j : Nat} (h : m8m M i j = m8m N i j) : M i j = N i j := m8_inj (hM i j) (hN i j) h
end Wm
namespace Go.Proofs.Ytepkiicekcglhaa
open Go.RowKit Go.BigFrame

theorem byteM : EInfo Try.prog 23 5 (.int .u8 0) 1 1 := EInfo.mk_ Try.underlying23 (by kernel_rfl) rfl (by omega)
theorem rowM : EInfo Try.prog 22 23 (.slice none 0 0) 1 24 := EInfo.mk_ Try.underlying22 (by kernel_rfl) rfl (by omega)
theorem clip_rows (A : Option Addr) (n c : Nat) (w : World) (h1 : n ≤ c) (h2 : (c : Int) ≤ 9223372036854775807) (hA : A = none → n = 0 ∧ c = 0) :
    Calls Try.prog 26 #[.slice A n c] w fun e w' => e = .returned (.slice A n n) ∧ w' = w := by
  have h3 : (n : Int) ≤ (c : Int) := by omega
  cases A with
  | none =>
    obtain ⟨rfl, rfl⟩ := hA rfl
    go_enter Try.func26, Try.ntmps26
    go_wp2
    go_ret
    exact ⟨rfl, rfl⟩
  | some a =>
    clear hA
    go_enter Try.func26, Try.ntmps26
    go_wp2
    go_ret
    exact ⟨rfl, rfl⟩


/-- A row of bytes that the call made. -/
structure Bf (w : World) (base g n : Nat) (f : Nat → Nat) : Prop where
  lo : base ≤ g
  hi : g < w.heap.size
  cell : ∀ j, j < n → w.cell? ⟨g, j, none⟩ = some (.int .u8 (f j : Int)) ∧ w.frozen? ⟨g, j, none⟩ = false
  room : Roomy w g n
theorem Bf.make (w : World) (n : Nat) (hn : n ≤ 1000) : Bf (w.alloc (.cells (madeCells #[.int .u8 0] n) 5)) w.heap.size w.heap.size n (fun _ => 0) := by
  have M := Made.make (w := w) (base := w.heap.size) (e := 5) (.int .u8 0) n (Nat.le_refl _) (by omega)
  refine ⟨Nat.le_refl _, by simp, fun j hj => ⟨?_, M.frozen j⟩, madeCells #[.int .u8 0] n, 5, by rw [← World.alloc_eq]; simp, by rw [made_size]; omega⟩
  rw [M.cell hj, List.getD_eq_getElem?_getD]; simp [hj]
theorem Bf.set {w : World} {base g n : Nat} {f : Nat → Nat} (T : Bf w base g n f) {j x : Nat} (hj : j < n) : Bf (w.setCell ⟨g, j, none⟩ (.int .u8 (x : Int))) base g n (upf f j x) :=
  ⟨T.lo, by simpa using T.hi, fun i hi => by
    rw [World.frozen?_setCell]
    refine ⟨?_, (T.cell i hi).2⟩
    by_cases c : i = j
    · subst c
      rw [upf_same]
      exact World.cell?_setCell_same' _ _ _ (by rw [(T.cell i hi).1]; rfl)
    · rw [upf_ne _ _ c, World.cell?_setCell_other _ _ _ _ (by intro e; injection e with _ e; exact c e.symm)]
      exact (T.cell i hi).1, T.room.set _ _⟩
theorem Bf.keep {w w' : World} {base g n : Nat} {f : Nat → Nat} (T : Bf w base g n f) (E : Ext w w') : Bf w' base g n f :=
  ⟨T.lo, Nat.lt_of_lt_of_le T.hi E.size, fun j hj => ⟨(E.cell (p := ⟨g, j, none⟩) T.hi).trans (T.cell j hj).1, (E.frozen (p := ⟨g, j, none⟩) T.hi).trans (T.cell j hj).2⟩, T.room.keep E⟩
theorem Bf.congr {w : World} {base g n : Nat} {f f' : Nat → Nat} (T : Bf w base g n f) (h : ∀ j, j < n → f j = f' j) : Bf w base g n f' := ⟨T.lo, T.hi, fun j hj => by rw [← h j hj]; exact T.cell j hj, T.room⟩

theorem Bld.congr {e : TypeId} {w0 W : World} {v : Value} {k : Nat} {bl cp : Nat → Nat} {l : Nat} {M M' : Nat → Nat → Nat} (T : Bld e w0 W v k bl cp l M) (h : ∀ i j, i < k → j < l → M i j = M' i j) : Bld e w0 W v k bl cp l M' :=
  { T with cell := fun i j hi hj => by rw [← h i j hi hj]; exact T.cell i j hi hj }

set_option maxRecDepth 100000 in
set_option maxHeartbeats 4000000 in
theorem MMul_ok (A : Option Addr) (n c : Nat) (ra : Nat → Option Addr) (ln cp : Nat → Nat) (M : Nat → Nat → Nat) (B : Option Addr) (n2 c2 : Nat) (rb : Nat → Option Addr) (ln2 cp2 : Nat → Nat) (N : Nat → Nat → Nat) (w : World)
    (T : Tab w A n ra ln cp M) (S : Tab w B n2 rb ln2 cp2 N) (h1 : chkM n ln = 0) (h2 : chkM n2 ln2 = 0) (h3 : n2 = ln 0) :
    Calls Try.prog 9 #[.slice A n c, .slice B n2 c2] w fun e w' => (∃ g bl cp', e = .returned (.tuple #[.slice (some ⟨g, 0, none⟩) n n, .int .i64 0]) ∧ Tb w' w.heap.size g n bl cp' (ln2 0) (Wm.mulT n2 M N)) ∧ Ext w w' := by
  obtain ⟨a1, a2, a3, a4, a5⟩ := chkM_ok h1
  obtain ⟨b1, b2, b3, b4, b5⟩ := chkM_ok h2
  obtain ⟨l, hl⟩ : ∃ l, l = ln2 0 := ⟨_, rfl⟩
  have HA5 := hide (fun (i : Nat) (hi : i < n) => show ln i = n2 from by rw [a5 i hi, h3])
  have HB5 := hide (fun (i : Nat) (hi : i < n2) => show ln2 i = l from by rw [b5 i hi, hl])
  have C1 := hide (MCheck_any A n c ra ln cp M w T (by omega))
  have C2 := hide (fun (w' : World) (E : Ext w w') => MCheck_any B n2 c2 rb ln2 cp2 N w' (S.keep E) (by omega))
  rw [h1] at C1
  rw [h2] at C2
  obtain ⟨P, hP⟩ : ∃ P, P = Wm.mulT n2 M N := ⟨_, rfl⟩
  rw [← hP]
  have HP := hide hP
  clear hP
  have HT := hide T
  have HS := hide S
  have CM := hide Mul_any
  rw [← hl] at b3 b4 ⊢
  obtain ⟨ba, oa, rfl, hba, hca⟩ := T.hd (by omega)
  obtain ⟨bb, ob, rfl, hbb, hcb⟩ := S.hd (by omega)
  have HCA := hide (show ∀ i, i < n → w.cell? ⟨ba, oa + i, none⟩ = some (.slice (ra i) n2 (cp i)) from fun i hi => by rw [hca i hi, unhide HA5 i hi])
  have HCB := hide (show ∀ i, i < n2 → w.cell? ⟨bb, ob + i, none⟩ = some (.slice (rb i) l (cp2 i)) from fun i hi => by rw [hcb i hi, unhide HB5 i hi])
  have HCM := hide T.cap
  clear hca hcb T S h1 h2 h3 hl a3 a4 a5 b5
  go_enter Try.func9, Try.ntmps9
  go_wp2_with fail
  refine (unhide C1).mono ?_
  rintro e w1 ⟨rfl, E1⟩
  go_wp2_with fail
  refine (unhide C2 w1 E1).mono ?_
  rintro e w2 ⟨rfl, E2⟩
  have HE2 := hide (E1.trans E2)
  have hc0 := (unhide HE2).keep (unhide HCA 0 (by omega))
  rw [Nat.add_zero] at hc0
  clear C1 C2 E1 E2
  have hmd : ∀ w : World, (Instr.makeSlice 23 (.int .i64 (l : Int)) (.int .i64 (l : Int))).run Try.prog w = .ok (.slice (some ⟨w.heap.size, 0, none⟩) l l) (w.alloc (.cells (madeCells #[.int .u8 0] l) 5)) := fun w => by
    have := make_run byteM l l (Nat.le_refl _) (by omega) (by omega) w
    rw [Nat.mul_one] at this
    exact this
  have HLM := hide (unhide HT).lt
  have HLN := hide (unhide HS).lt
  go_wp2
  go_loopw [8, 35] (fun v i wr => ∃ x : Nat, x ≤ n ∧ i = .int .i64 x ∧ ∃ bl cq : Nat → Nat, Hid (Bld 23 w2 wr v x bl cq l P)) (fun _ i _ => n - (intOf i).toNat)
  case atStart => exact ⟨0, Nat.zero_le _, rfl, _, _, hide (Bld.nil 23 w2 (fun _ => 0) (fun _ => 0) l P)⟩
  case round =>
    obtain ⟨x, hx, rfl, bl, cq, HB⟩ := hrel
    by_cases hlt : x < n
    · obtain ⟨wa, hwa⟩ : ∃ wa, wa = wr := ⟨_, rfl⟩
      subst hwa
      have HEA := hide ((unhide HE2).trans (unhide HB).ext)
      have hcx := (unhide HEA).keep (unhide HCA x hlt)
      obtain ⟨bx, ox, hrx, hbx, hcr⟩ := (unhide HT).row x hlt (by rw [unhide HA5 x hlt]; omega)
      rw [hrx] at hcx
      have HCR := hide (show ∀ t, t < n2 → w.cell? ⟨bx, ox + t, none⟩ = some (.int .u8 (M x t : Int)) from fun t ht => hcr t (by rw [unhide HA5 x hlt]; exact ht))
      have hb0 := (unhide HEA).keep (unhide HCB 0 (by omega))
      rw [Nat.add_zero] at hb0
      have HF0 := hide (Bf.make wa l (by omega))
      have HE0 := hide (show Ext wa (wa.alloc (.cells (madeCells #[.int .u8 0] l) 5)) from (Ext.refl wa).alloc _)
      clear hcr hrx
      generalize cp x = cx at *
      generalize rb 0 = rb0 at *
      generalize cp2 0 = cb0 at *
      go_wp2
      go_loopw [46] (fun i wq => ∃ t : Nat, t ≤ n2 ∧ i = .int .i64 t ∧ Hid (Bf wq wa.heap.size wa.heap.size l (fun j => Wm.mulS M N x j t)) ∧ Hid (Ext wa wq)) (fun i _ => n2 - (intOf i).toNat)
      case atStart => exact ⟨0, Nat.zero_le _, rfl, HF0, HE0⟩
      case round =>
        obtain ⟨t, ht, rfl, HF, HEQ⟩ := hrel
        by_cases htn : t < n2
        · obtain ⟨wb, hwb⟩ : ∃ wb, wb = wr := ⟨_, rfl⟩
          subst hwb
          have HEW := hide ((unhide HEA).trans (unhide HEQ))
          have hct := (unhide HEW).keep (unhide HCR t htn)
          have hcb := (unhide HEW).keep (unhide HCB t htn)
          obtain ⟨bt, ot, hrt, hbt, hcr⟩ := (unhide HS).row t htn (by rw [unhide HB5 t htn]; omega)
          rw [hrt] at hcb
          have HCT := hide (show ∀ j, j < l → w.cell? ⟨bt, ot + j, none⟩ = some (.int .u8 (N t j : Int)) from fun j hj => hcr j (by rw [unhide HB5 t htn]; exact hj))
          obtain ⟨X, hX⟩ : ∃ X, X = M x t := ⟨_, rfl⟩
          have hXl : X < 256 := by rw [hX]; exact unhide HLM x t
          rw [← hX] at hct
          have HX := hide hX
          have HG0 := hide ((unhide HF).congr (f' := fun j => if j < 0 then Wm.mulS M N x j (t + 1) else Wm.mulS M N x j t) fun j _ => by rw [if_neg (by omega)])
          clear hcr hrt hX
          generalize cp2 t = ct at *
          go_wp2
          go_loopw [56] (fun i wq => ∃ j : Nat, j ≤ l ∧ i = .int .i64 j ∧ Hid (Bf wq wa.heap.size wa.heap.size l (fun i => if i < j then Wm.mulS M N x i (t + 1) else Wm.mulS M N x i t)) ∧ Hid (Ext wa wq)) (fun i _ => l - (intOf i).toNat)
          case atStart => exact ⟨0, Nat.zero_le _, rfl, HG0, HEQ⟩
          case round =>
            obtain ⟨j, hj, rfl, HG, HEJ⟩ := hrel
            by_cases hjl : j < l
            · have hcn := ((unhide HEA).trans (unhide HEJ)).keep (unhide HCT j hjl)
              obtain ⟨Y, hY⟩ : ∃ Y, Y = N t j := ⟨_, rfl⟩
              have hYl : Y < 256 := by rw [hY]; exact unhide HLN t j
              rw [← hY] at hcn
              obtain ⟨hcz, hfz⟩ := (unhide HG).cell j hjl
              rw [if_neg (Nat.lt_irrefl j)] at hcz
              obtain ⟨Z, hZ⟩ : ∃ Z, Z = Wm.mulS M N x j t := ⟨_, rfl⟩
              have hZl : Z < 256 := by rw [hZ]; exact Wm.mulS_lt (unhide HLM) (unhide HLN) x j t
              rw [← hZ] at hcz
              have C := hide (fun w => unhide CM X Y hXl hYl w)
              obtain ⟨F, hF⟩ : ∃ F, F = Wm.fmul X Y := ⟨_, rfl⟩
              have hFl : F < 256 := by rw [hF]; exact Wm.fmul_lt hXl hYl
              rw [← hF] at C
              have hxo := u8_xor_nat Z F hZl hFl
              have HNZ := hide (show Z ^^^ F = Wm.mulS M N x j (t + 1) from by rw [hZ, hF, unhide HX, hY]; rfl)
              clear hY hZ hF
              have HSS := hide ((unhide HG).set (j := j) (x := Z ^^^ F) hjl)
              have HES := hide (show Ext wa (wr.setCell ⟨wa.heap.size, j, none⟩ (.int .u8 ((Z ^^^ F : Nat) : Int))) from (unhide HEJ).setCell (by first | (simp; done) | (simp; omega)) _)
              generalize hU : Z ^^^ F = U at *
              clear hU
              have HS2 := hide ((unhide HSS).keep ((Ext.refl _).drew))
              have HE2 := hide ((unhide HES).drew)
              have HS3 := hide ((unhide HS2).congr (f' := fun i => if i < j + 1 then Wm.mulS M N x i (t + 1) else Wm.mulS M N x i t) fun i _ => by
                by_cases c : i = j
                · subst c; rw [upf_same, if_pos (Nat.lt_succ_self i), unhide HNZ]
                · rw [upf_ne _ _ c]
                  by_cases d : i < j
                  · rw [if_pos d, if_pos (show i < j + 1 by omega)]
                  · rw [if_neg d, if_neg (show ¬ i < j + 1 by omega)])
              clear HSS HES HS2
              go_wp2
              go_region_with (go_at_call 25; refine (unhide C _).mono ?_; rintro e wc ⟨rfl, rfl⟩)
              all_goals
                go_wp2
                go_roundw
                case rel => exact ⟨j + 1, by omega, by go_num, HS3, HE2⟩
                case measure => simp [intOf]; omega
            · obtain rfl : l = j := by omega
              have HG2 := hide ((unhide HG).congr (f' := fun i => Wm.mulS M N x i (t + 1)) fun i hi => by rw [if_pos hi])
              go_wp2
              go_roundw
              case rel => exact ⟨t + 1, by omega, by go_num, HG2, HEJ⟩
              case measure => simp [intOf]; omega
        · obtain rfl : n2 = t := by omega
          have hF := (unhide HF).keep ((Ext.refl wr).alloc (.cells #[.slice (some ⟨wa.heap.size, 0, none⟩) l l] 23))
          have HFW := hide hF
          have HOW := hide ((unhide HB).keep ((unhide HEQ).alloc (.cells #[.slice (some ⟨wa.heap.size, 0, none⟩) l l] 23))).own
          have HEN := hide ((unhide HEQ).alloc (.cells #[.slice (some ⟨wa.heap.size, 0, none⟩) l l] 23))
          have HBD := hide (show (x + 1) * 24 ≤ 140737488355328 ∧ x + 1 ≤ 9223372036854775807 by omega)
          have HBS := hide (show w2.heap.size ≤ (wr.alloc (.cells #[.slice (some ⟨wa.heap.size, 0, none⟩) l l] 23)).heap.size from ((unhide HB).ext.trans (unhide HEN)).size)
          clear hF
          have HONE := hide (show ([.slice (some ⟨wa.heap.size, 0, none⟩) l l] : List Value).all (fun u => u.oneCell') = true from by simp [Value.oneCell'])
          have HRN := hide (row_new wr #[.slice (some ⟨wa.heap.size, 0, none⟩) l l] 23 1 1 rfl)
          go_wp2_with (at_builtin; refine stop ?_)
          unfold Stop
          refine wpList_app_any rfl _ _ 22 (by rfl) 23 rowM w2.heap.size _ x _ (by rfl) (unhide HOW) (some ⟨wr.heap.size, 0, none⟩) 1 1 [.slice (some ⟨wa.heap.size, 0, none⟩) l l] (by rfl) (unhide HRN) (unhide HONE) (unhide HBD) (unhide HBS) ?_
          intro v' w6 hown6 hg6 hat6
          have HBN := hide ((unhide HB).add (unhide HEN) (b := wa.heap.size) (c := l) (f := fun j => Wm.mulS M N x j n2) (Nat.le_refl _) (unhide HFW).hi (by omega) (unhide HFW).cell (unhide HFW).room hown6 hg6 (by
            rcases hat6 with h | h
            · exact .inl h
            · exact .inr ⟨_, h, Nat.le_refl _⟩))
          have HBN2 := hide ((unhide HBN).congr (M' := P) fun i j hi hj => by
            rw [unhide HP]
            by_cases c : i = x
            · subst c; rw [upf_same]; rfl
            · rw [upf_ne _ _ c])
          clear hown6 hg6 hat6 HBN
          go_wp2
          go_roundw
          case rel => exact ⟨x + 1, by omega, by go_num, _, _, HBN2⟩
          case measure => simp [intOf]; omega
    · obtain rfl : n = x := by omega
      obtain ⟨g, cg, rfl, hcg, TB⟩ := (unhide HB).done (by omega) (fun i j => by rw [unhide HP]; exact Wm.mulS_lt (unhide HLM) (unhide HLN) i j n2)
      have HTB := hide TB
      have HEF := hide ((unhide HE2).trans (unhide HB).ext)
      have CL := hide (clip_rows (some ⟨g, 0, none⟩) n cg wr hcg (by have := (unhide HB).own; rcases this.2 with ⟨h, -⟩ | ⟨_, _, _, h, -, -, -, h5, -⟩ <;> injection h with h1 h2 h3 <;> (try cases h1) <;> (subst h3; unfold maxLen at h5; omega)) (fun h => by cases h))
      clear TB
      go_wp2_with fail
      refine (unhide CL).mono ?_
      rintro e w5 ⟨rfl, rfl⟩
      go_wp2
      go_ret2
      exact ⟨⟨g, bl, cq, rfl, (unhide HTB).mono (unhide HE2).size⟩, unhide HEF⟩
end Go.Proofs.Ytepkiicekcglhaa
