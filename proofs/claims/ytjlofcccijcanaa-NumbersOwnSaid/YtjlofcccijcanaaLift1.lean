/-
  The contracts of divide.check, divide.sums, divide.Lift and divide.Lower.
-/
import Derived.Test.YtjlofcccijcanaaMake
import Derived.Test.YtjlofcccijcanaaTri
import Derived.Test.YtjlofcccijcanaaLift0
import Derived.Test.YtjlofcccijcanaaDivs2
set_option linter.unusedVariables false
set_option linter.unusedSimpArgs false
namespace Go.Proofs.Ytjlofcccijcanaa
open Go.RowKit Go.BigFrame

def bigB (x : Int) : Bool := if -1000000000 ≤ x ∧ x ≤ 1000000000 then false else true
theorem isbig_any (x : Int) (w : World) : Calls Try.prog 108 #[.int .i64 x] w fun e w' => e = .returned (.bool (bigB x)) ∧ Ext w w' := by
  unfold bigB
  by_cases h1 : x < -1000000000
  · rw [if_neg (by omega)]
    go_enter Try.func108, Try.ntmps108
    go_wp2
    go_ret
    exact ⟨rfl, Ext.refl _⟩
  · by_cases h2 : 1000000000 < x
    · rw [if_neg (by omega)]
      have d2 : decide (1000000000 < x) = true := decide_eq_true h2
      have d1 : decide (x < -1000000000) = false := decide_eq_false h1
      clear h1 h2
      go_enter Try.func108, Try.ntmps108
      go_wp2
      go_ret
      exact ⟨rfl, Ext.refl _⟩
    · rw [if_pos (by omega)]
      have d2 : decide (1000000000 < x) = false := decide_eq_false h2
      have d1 : decide (x < -1000000000) = false := decide_eq_false h1
      clear h1 h2
      go_enter Try.func108, Try.ntmps108
      go_wp2
      go_ret
      exact ⟨rfl, Ext.refl _⟩


set_option maxRecDepth 100000 in
set_option maxHeartbeats 1000000 in
theorem bigs_index (A : Option Addr) (n c : Nat) (l : List Int)  (w : World) (R : Row w A n 1 (ints l)) (p : Int → Bool)
    (hp : ∀ k, k < n → ∀ W, Ext w W → Calls Try.prog 108 (#[.int .i64 (l.getD k 0)] ++ #[]) W fun e w' => e = .returned (.bool (p (l.getD k 0))) ∧ Ext W w') (hm : n ≤ 4611686018427387904) :
    Calls Try.prog 130 #[.slice A n c, .func (.func 108) #[] #[]] w fun e w' => (∃ r : Int, e = .returned (.int .i64 r) ∧ decide (0 ≤ r) = l.any p) ∧ Ext w w' := by
  have HP := hide hp
  have HL := hide R.num
  have HR := hide R
  clear hp R
  go_enter Try.func130, Try.ntmps130
  go_wp2
  go_loopw [8] (fun i wr => ∃ k : Nat, k ≤ n ∧ i = .int .i64 k ∧ Hid (∀ j, j < k → p (l.getD j 0) = false) ∧ Ext w wr) (fun i _ => n - (intOf i).toNat)
  case atStart => exact ⟨0, by omega, rfl, hide (fun j h => absurd h (by omega)), Ext.refl _⟩
  case round =>
    obtain ⟨k, hk, rfl, hz, hext⟩ := hrel
    by_cases hlt : k < n
    · obtain ⟨b, o, rfl, hb, c1⟩ := ((unhide HR).keep hext).int hlt
      have hpk := unhide HP k hlt
      have hmem := getD_mem l 0 (k := k) (by rw [unhide HL]; exact hlt)
      have hzk := hide (fun (h : p (l.getD k 0) = false) j (hj : j < k + 1) => (show p (l.getD j 0) = false from by
        by_cases h' : j < k
        · exact unhide hz j h'
        · obtain rfl : j = k := by omega
          exact h))
      have hfin := hide (fun (h : p (l.getD k 0) = true) => (List.any_eq_true.2 ⟨_, hmem, h⟩ : l.any p = true))
      clear hmem
      generalize hq : p (l.getD k 0) = q at *
      clear hq
      generalize l.getD k 0 = x at *
      have HQ := hide hpk
      clear hpk
      cases q with
      | false =>
        have hz2 := hide (unhide hzk rfl)
        clear hzk hfin
        go_wp2_with (go_at_call 108; refine (unhide HQ _ hext).mono ?_; rintro e w' ⟨rfl, E1⟩)
        go_roundw
        case rel => exact ⟨k + 1, by omega, by go_num, hz2, hext.trans E1⟩
        case measure => simp [intOf]; omega
      | true =>
        have hf2 := hide (unhide hfin rfl)
        clear hzk hfin
        go_wp2_with (go_at_call 108; refine (unhide HQ _ hext).mono ?_; rintro e w' ⟨rfl, E1⟩)
        go_ret
        exact ⟨⟨_, rfl, by rw [unhide hf2]; simp⟩, hext.trans E1⟩
    · have hfin := hide (show l.any p = false by
        rw [List.any_eq_false]
        intro x hx
        obtain ⟨j, hj, rfl⟩ := List.getElem_of_mem hx
        have := unhide hz j (by have := unhide HL; omega)
        rw [List.getD_eq_getElem?_getD, List.getElem?_eq_getElem hj] at this
        simpa using this)
      go_wp2
      go_ret
      exact ⟨⟨_, rfl, by rw [unhide hfin]; simp⟩, hext⟩

theorem bigs_contains (A : Option Addr) (n c : Nat) (l : List Int)  (w : World) (R : Row w A n 1 (ints l)) (p : Int → Bool)
    (hp : ∀ k, k < n → ∀ W, Ext w W → Calls Try.prog 108 (#[.int .i64 (l.getD k 0)] ++ #[]) W fun e w' => e = .returned (.bool (p (l.getD k 0))) ∧ Ext W w') (hm : n ≤ 4611686018427387904) :
    Calls Try.prog 107 #[.slice A n c, .func (.func 108) #[] #[]] w fun e w' => e = .returned (.bool (l.any p)) ∧ Ext w w' := by
  have H := hide (bigs_index A n c l  w R p hp hm)
  clear R hp
  generalize l.any p = v at *
  go_enter Try.func107, Try.ntmps107
  go_wp2_with fail
  refine (unhide H).mono ?_
  rintro e w' ⟨⟨n, rfl, hn⟩, E1⟩
  go_wp2
  go_ret
  exact ⟨rfl, E1⟩


def checkR (n : Nat) (l : List Int) : Int := if 60 < n then 2 else if l.any bigB then 1 else 0

theorem dcheck_any (A : Option Addr) (n c : Nat) (l : List Int) (w : World) (R : Row w A n 1 (ints l)) (hm : n ≤ 4611686018427387904) :
    Calls Try.prog 95 #[.slice A n c] w fun e w' => e = .returned (.int .i64 (checkR n l)) ∧ Ext w w' := by
  have H := hide (fun W (E : Ext w W) => bigs_contains A n c l W (R.keep E) bigB (fun k _ V _ => isbig_any _ V) hm)
  unfold checkR
  clear R
  by_cases h60 : 60 < n
  · rw [if_pos h60]
    have d : decide (60 < (n : Int)) = true := decide_eq_true (by omega)
    go_enter Try.func95, Try.ntmps95
    go_wp2
    go_ret
    exact ⟨rfl, Ext.refl _⟩
  · rw [if_neg h60]
    have d : decide (60 < (n : Int)) = false := decide_eq_false (by omega)
    generalize l.any bigB = v at *
    cases v
    · go_enter Try.func95, Try.ntmps95
      go_wp2_with fail
      refine (unhide H _ (Ext.refl _)).mono ?_
      rintro e w1 ⟨rfl, E1⟩
      go_wp2
      go_ret
      exact ⟨rfl, E1⟩
    · go_enter Try.func95, Try.ntmps95
      go_wp2_with fail
      refine (unhide H _ (Ext.refl _)).mono ?_
      rintro e w1 ⟨rfl, E1⟩
      go_wp2
      go_ret
      exact ⟨rfl, E1⟩

/-- What sums tells. -/
def SumsPost (w w' : World) (n : Nat) (l : List Int) (g : Nat → Int) (e : Ending) : Prop :=
  (checkR n l ≠ 0 ∧ e = .returned (.tuple #[.slice none 0 0, .int .i64 (checkR n l)])) ∨
    (checkR n l = 0 ∧ ∃ v, Made w' w.heap.size 3 1 v n (ints (Wm.conv l g n n)) ∧ e = .returned (.tuple #[v, .int .i64 0]))

theorem small_of {n : Nat} {l : List Int} (h : checkR n l = 0) : n ≤ 60 ∧ ∀ d, -1000000000 ≤ l.getD d 0 ∧ l.getD d 0 ≤ 1000000000 := by
  unfold checkR at h
  split at h
  · omega
  · split at h
    · omega
    · rename_i h1 h2
      refine ⟨by omega, fun d => ?_⟩
      have h2' : l.any bigB = false := by simpa using h2
      rw [List.any_eq_false] at h2'
      rcases Nat.lt_or_ge d l.length with hd | hd
      · have := h2' _ (getD_mem l 0 hd)
        unfold bigB at this
        split at this
        · assumption
        · simp at this
      · rw [List.getD_eq_getElem?_getD, List.getElem?_eq_none hd]; simp

set_option maxRecDepth 100000 in
set_option maxHeartbeats 4000000 in
theorem lift_sums_any (A : Option Addr) (n c : Nat) (l : List Int) (g : Nat → Int) (w : World) (R : Row w A n 1 (ints l)) (hm : n ≤ 4611686018427387904) (hg : ∀ k, -1 ≤ g k ∧ g k ≤ 1)
    (hF : ∀ k : Nat, 1 ≤ k → k ≤ 60 → ∀ W, Calls Try.prog 62 #[.int .i64 (k : Int)] W fun e w' => e = .returned (.int .i64 (g k)) ∧ Ext W w') :
    Calls Try.prog 61 #[.slice A n c, .func (.func 62) #[] #[]] w fun e w' => SumsPost w w' n l g e ∧ Ext w w' := by
  have HC := hide (dcheck_any A n c l w R hm)
  have HR := hide R
  have HF := hide hF
  have HG := hide hg
  by_cases h0 : checkR n l = 0
  · obtain ⟨h60, hl⟩ := small_of h0
    rw [h0] at HC
    have HL := hide hl
    have H0 := hide h0
    have hmk : ∀ w : World, (Instr.makeSlice 39 (.int .i64 (n : Int)) (.int .i64 (n : Int))).run Try.prog w = .ok (.slice (some ⟨w.heap.size, 0, none⟩) n n) (w.alloc (.cells (madeCells (Value.int .i64 0).cells (n * 1)) 3)) := make_run intI n n (Nat.le_refl _) (by omega) (by omega)
    have hst := fun w : World => Made.make (w := w) (base := w.heap.size) (e := 3) (.int .i64 0) n (Nat.le_refl _) (by omega)
    have hz : List.replicate n (Value.int .i64 0) = ints (Wm.cvs l g n 0 1) := by
      rw [ints_replicate, ← Wm.cvs_one]
      congr 1
      unfold Wm.conv
      simp only [Wm.cv]
      rw [List.map_const', List.length_range]
    rw [hz] at hst
    have HST := hide hst
    clear R hF hg h0 hl hst hz
    go_enter Try.func61, Try.ntmps61
    go_wp2_with fail
    refine (unhide HC).mono ?_
    rintro e w1 ⟨rfl, E1⟩
    go_wp2_with fail
    have M0 := unhide HST w1
    have hgs : ∃ g0, g0 = w1.heap.size := ⟨_, rfl⟩
    obtain ⟨g0, hg0⟩ := hgs
    rw [← hg0] at M0 ⊢
    have F0 : Ext w1 (w1.alloc (.cells (madeCells #[.int .i64 0] n) 3)) := (Ext.refl _).alloc _
    generalize w1.alloc (.cells (madeCells #[.int .i64 0] n) 3) = W0 at *
    have G0 := hide hg0
    clear hmk hg0 HST
    go_loopw [8] (fun i wr => ∃ d : Nat, d ≤ n ∧ i = .int .i64 ((d : Int) + 1) ∧ Made wr g0 3 1 (.slice (some ⟨g0, 0, none⟩) n n) n (ints (Wm.cvs l g n d 1)) ∧ Ext w1 wr) (fun i _ => n + 1 - (intOf i).toNat)
    case atStart => exact ⟨0, by omega, by simp, M0, F0⟩
    case round =>
      obtain ⟨d, hd, rfl, M, hext⟩ := hrel
      by_cases hlt : d < n
      · obtain ⟨b, o, rfl, hb, c1⟩ := (((unhide HR).keep E1).keep hext).int hlt
        have dd : decide ((d : Int) + 1 ≤ (n : Int)) = true := decide_eq_true (by omega)
        go_wp2
        obtain ⟨wo, rfl⟩ : ∃ wo : World, wo = wr := ⟨_, rfl⟩
        go_loopw [9] (fun i wi => ∃ k : Nat, 1 ≤ k ∧ k ≤ 61 ∧ i = .int .i64 (k : Int) ∧ Made wi g0 3 1 (.slice (some ⟨g0, 0, none⟩) n n) n (ints (Wm.cvs l g n d k)) ∧ Ext w1 wi) (fun i _ => 100 - (intOf i).toNat)
        case atStart => exact ⟨1, by omega, by omega, rfl, M, hext⟩
        case round =>
          obtain ⟨k, hk1, hk61, rfl, M2, hext2⟩ := hrel
          have hdk : (((d + 1) * k : Nat) : Int) = ((d : Int) + 1) * (k : Int) := by push_cast; rfl
          have hdk6 : (d + 1) * k ≤ 60 * 61 := Nat.mul_le_mul (by omega) hk61
          have p0 : 0 ≤ ((d : Int) + 1) * (k : Int) := by omega
          have p1 : ((d : Int) + 1) * (k : Int) ≤ 3660 := by omega
          have HDK := hide hdk
          by_cases hle : (d + 1) * k ≤ n
          · have hk60 : k ≤ 60 := by
              have : 1 * k ≤ (d + 1) * k := Nat.mul_le_mul_right k (by omega)
              omega
            have hpos : 1 ≤ (d + 1) * k := Nat.mul_pos (by omega) hk1
            obtain ⟨i, hi⟩ : ∃ i, i + 1 = (d + 1) * k := ⟨(d + 1) * k - 1, by omega⟩
            have hin : i < n := by omega
            have ci := M2.int hin
            rw [Wm.cvs_get hin] at ci
            have fi := M2.frozen i
            have cf := (((unhide HR).keep E1).keep hext2).int hlt
            obtain ⟨b2, o2, e2, hb2, c2⟩ := cf
            injection e2 with e2
            injection e2 with e2 e3
            subst e2 e3
            have bz := Wm.cvAt_bound (unhide HL) (unhide HG) d k i (by omega)
            have bl := unhide HL d
            have bg := unhide HG k
            have bm := Wm.abs_le_mul (B := 1000000000) bl bg
            have hstep : (ints (Wm.cvs l g n d k)).set i (.int .i64 (Wm.cvAt l g d k i + l.getD d 0 * g k)) = ints (Wm.cvs l g n d (k + 1)) := by rw [ints_set, Wm.cvs_step hi hin]
            have hgb : w1.heap.size ≤ g0 := by rw [unhide G0]; exact Nat.le_refl _
            have hmi : ((d : Int) + 1) * (k : Int) - 1 = (i : Int) := by omega
            have hle2 : ((d : Int) + 1) * (k : Int) ≤ (n : Int) := by omega
            have C := hide (fun W => unhide HF k hk1 hk60 W)
            have Z1 : ∀ x, (plus wr.drew x).cell? ⟨g0, i, none⟩ = some (.int .i64 (Wm.cvAt l g d k i)) := fun x => plus_keep (w := wr.drew) ci x
            have Z2 : ∀ x, (plus wr.drew x).cell? ⟨b, o + d, none⟩ = some (.int .i64 (l.getD d 0)) := fun x => plus_keep (w := wr.drew) c2 x
            have Z3 : ∀ x, (plus wr.drew x).frozen? ⟨g0, i, none⟩ = false := fun x => (plus_keep_frozen (w := wr.drew) ci x).trans fi
            have C' := hide (fun (x : World) => ext_call (w := wr.drew) (x := x) (unhide C (plus wr.drew x)))
            have wi1 : IntKind.i64.wrap (((d : Int) + 1) * (k : Int)) = ((d : Int) + 1) * (k : Int) := IntWalk.i64_in _ (by omega)
            have hi0 : (0 : Int) ≤ (i : Int) := by omega
            have hi1 : (i : Int) < (n : Int) := by omega
            have hd0 : (0 : Int) ≤ (d : Int) := by omega
            have hd1 : (d : Int) < (n : Int) := by omega
            have wm : IntKind.i64.wrap (l.getD d 0 * g k) = l.getD d 0 * g k := IntWalk.i64_in _ (by omega)
            have ws : IntKind.i64.wrap (Wm.cvAt l g d k i + l.getD d 0 * g k) = Wm.cvAt l g d k i + l.getD d 0 * g k := IntWalk.i64_in _ (by omega)
            have wi2 : IntKind.i64.wrap (i : Int) = (i : Int) := IntWalk.i64_in _ (by omega)
            have wi3 : IntKind.i64.wrap (d : Int) = (d : Int) := IntWalk.i64_in _ (by omega)
            have HSTEP := hide hstep
            have HMI := hide hmi
            clear hdk hdk6 hpos bz bl bg bm hstep ci c2 fi hi hle C
            generalize Wm.cvAt l g d k i = Y at *
            generalize l.getD d 0 = X at *
            generalize g k = G at *
            go_wp2
            refine wp_region_tail 18 (fun w w' => ∃ x, w' = plus w x) (fun w => Ext.plus (Ext.refl w)) (fun _ _ d _ _ h => by cases d <;> exact h) (by kernel_rfl) (by kernel_rfl) ?_
            show wpQuiet _ _ _ _ (_ :: _ :: _ :: _ :: _ :: _ :: _ :: _ :: _ :: _ :: _ :: _ :: _ :: _ :: _ :: _ :: _ :: _ :: []) _
            repeat (go_big_quiet_step ((go_at_call 62; exact unhide C' _)))
            refine wpQuiet_nil ?_
            rintro wq ⟨xq, rfl⟩
            have EX : Ext wr (plus wr.drew xq) := ((Ext.refl wr).drew).trans (plus_ext wr.drew xq)
            have MK := (M2.keep EX).set (j := i) (by omega) (.int .i64 (Y + X * G))
            rw [unhide HSTEP] at MK
            have EK : Ext w1 ((plus wr.drew xq).setCell ⟨g0, i, none⟩ (.int .i64 (Y + X * G))) := (hext2.trans EX).setCell hgb _
            show wpList _ _ _ (_ :: []) _ _
            go_wp2
            go_roundw
            case rel => exact ⟨k + 1, by omega, by omega, by go_num, MK, EK⟩
            case measure => simp [intOf]; omega
          · have hend := hide (Wm.cvs_end (f := l) (g := g) (n := n) (d := d) (k := k) (by omega))
            have hgt : ¬ ((d : Int) + 1) * (k : Int) ≤ (n : Int) := by omega
            clear hdk hdk6 hle
            go_wp2
            go_roundw
            case rel => exact ⟨d + 1, by omega, by go_num, by rw [← Wm.cvs_one, ← unhide hend]; exact M2, hext2⟩
            case measure => simp [intOf]; omega
      · obtain rfl : d = n := by omega
        rw [← Wm.cvs_one] at M
        go_wp2
        go_ret2
        exact ⟨.inr ⟨unhide H0, _, M.mono (by rw [unhide G0]; exact E1.size), rfl⟩, E1.trans hext⟩
  · have H0 := hide h0
    have b1 : ((checkR n l) != 0) = true := by rw [bne_iff_ne]; exact h0
    clear R hF hg
    generalize hq : checkR n l = q at *
    have HQ := hide hq
    clear hq
    go_enter Try.func61, Try.ntmps61
    go_wp2_with fail
    refine (unhide HC).mono ?_
    rintro e w1 ⟨rfl, E1⟩
    go_wp2
    go_ret2
    exact ⟨.inl ⟨by rw [unhide HQ]; exact h0, by rw [unhide HQ]; rfl⟩, E1⟩


set_option maxRecDepth 100000 in
set_option maxHeartbeats 4000000 in
theorem lower_sums_any (A : Option Addr) (n c : Nat) (l : List Int) (g : Nat → Int) (w : World) (R : Row w A n 1 (ints l)) (hm : n ≤ 4611686018427387904) (hg : ∀ k, -1 ≤ g k ∧ g k ≤ 1)
    (hF : ∀ k : Nat, 1 ≤ k → k ≤ 60 → ∀ W, Calls Try.prog 63 #[.int .i64 (k : Int)] W fun e w' => e = .returned (.int .i64 (g k)) ∧ Ext W w') :
    Calls Try.prog 61 #[.slice A n c, .func (.func 63) #[] #[]] w fun e w' => SumsPost w w' n l g e ∧ Ext w w' := by
  have HC := hide (dcheck_any A n c l w R hm)
  have HR := hide R
  have HF := hide hF
  have HG := hide hg
  by_cases h0 : checkR n l = 0
  · obtain ⟨h60, hl⟩ := small_of h0
    rw [h0] at HC
    have HL := hide hl
    have H0 := hide h0
    have hmk : ∀ w : World, (Instr.makeSlice 39 (.int .i64 (n : Int)) (.int .i64 (n : Int))).run Try.prog w = .ok (.slice (some ⟨w.heap.size, 0, none⟩) n n) (w.alloc (.cells (madeCells (Value.int .i64 0).cells (n * 1)) 3)) := make_run intI n n (Nat.le_refl _) (by omega) (by omega)
    have hst := fun w : World => Made.make (w := w) (base := w.heap.size) (e := 3) (.int .i64 0) n (Nat.le_refl _) (by omega)
    have hz : List.replicate n (Value.int .i64 0) = ints (Wm.cvs l g n 0 1) := by
      rw [ints_replicate, ← Wm.cvs_one]
      congr 1
      unfold Wm.conv
      simp only [Wm.cv]
      rw [List.map_const', List.length_range]
    rw [hz] at hst
    have HST := hide hst
    clear R hF hg h0 hl hst hz
    go_enter Try.func61, Try.ntmps61
    go_wp2_with fail
    refine (unhide HC).mono ?_
    rintro e w1 ⟨rfl, E1⟩
    go_wp2_with fail
    have M0 := unhide HST w1
    have hgs : ∃ g0, g0 = w1.heap.size := ⟨_, rfl⟩
    obtain ⟨g0, hg0⟩ := hgs
    rw [← hg0] at M0 ⊢
    have F0 : Ext w1 (w1.alloc (.cells (madeCells #[.int .i64 0] n) 3)) := (Ext.refl _).alloc _
    generalize w1.alloc (.cells (madeCells #[.int .i64 0] n) 3) = W0 at *
    have G0 := hide hg0
    clear hmk hg0 HST
    go_loopw [8] (fun i wr => ∃ d : Nat, d ≤ n ∧ i = .int .i64 ((d : Int) + 1) ∧ Made wr g0 3 1 (.slice (some ⟨g0, 0, none⟩) n n) n (ints (Wm.cvs l g n d 1)) ∧ Ext w1 wr) (fun i _ => n + 1 - (intOf i).toNat)
    case atStart => exact ⟨0, by omega, by simp, M0, F0⟩
    case round =>
      obtain ⟨d, hd, rfl, M, hext⟩ := hrel
      by_cases hlt : d < n
      · obtain ⟨b, o, rfl, hb, c1⟩ := (((unhide HR).keep E1).keep hext).int hlt
        have dd : decide ((d : Int) + 1 ≤ (n : Int)) = true := decide_eq_true (by omega)
        go_wp2
        obtain ⟨wo, rfl⟩ : ∃ wo : World, wo = wr := ⟨_, rfl⟩
        go_loopw [9] (fun i wi => ∃ k : Nat, 1 ≤ k ∧ k ≤ 61 ∧ i = .int .i64 (k : Int) ∧ Made wi g0 3 1 (.slice (some ⟨g0, 0, none⟩) n n) n (ints (Wm.cvs l g n d k)) ∧ Ext w1 wi) (fun i _ => 100 - (intOf i).toNat)
        case atStart => exact ⟨1, by omega, by omega, rfl, M, hext⟩
        case round =>
          obtain ⟨k, hk1, hk61, rfl, M2, hext2⟩ := hrel
          have hdk : (((d + 1) * k : Nat) : Int) = ((d : Int) + 1) * (k : Int) := by push_cast; rfl
          have hdk6 : (d + 1) * k ≤ 60 * 61 := Nat.mul_le_mul (by omega) hk61
          have p0 : 0 ≤ ((d : Int) + 1) * (k : Int) := by omega
          have p1 : ((d : Int) + 1) * (k : Int) ≤ 3660 := by omega
          have HDK := hide hdk
          by_cases hle : (d + 1) * k ≤ n
          · have hk60 : k ≤ 60 := by
              have : 1 * k ≤ (d + 1) * k := Nat.mul_le_mul_right k (by omega)
              omega
            have hpos : 1 ≤ (d + 1) * k := Nat.mul_pos (by omega) hk1
            obtain ⟨i, hi⟩ : ∃ i, i + 1 = (d + 1) * k := ⟨(d + 1) * k - 1, by omega⟩
            have hin : i < n := by omega
            have ci := M2.int hin
            rw [Wm.cvs_get hin] at ci
            have fi := M2.frozen i
            have cf := (((unhide HR).keep E1).keep hext2).int hlt
            obtain ⟨b2, o2, e2, hb2, c2⟩ := cf
            injection e2 with e2
            injection e2 with e2 e3
            subst e2 e3
            have bz := Wm.cvAt_bound (unhide HL) (unhide HG) d k i (by omega)
            have bl := unhide HL d
            have bg := unhide HG k
            have bm := Wm.abs_le_mul (B := 1000000000) bl bg
            have hstep : (ints (Wm.cvs l g n d k)).set i (.int .i64 (Wm.cvAt l g d k i + l.getD d 0 * g k)) = ints (Wm.cvs l g n d (k + 1)) := by rw [ints_set, Wm.cvs_step hi hin]
            have hgb : w1.heap.size ≤ g0 := by rw [unhide G0]; exact Nat.le_refl _
            have hmi : ((d : Int) + 1) * (k : Int) - 1 = (i : Int) := by omega
            have hle2 : ((d : Int) + 1) * (k : Int) ≤ (n : Int) := by omega
            have C := hide (fun W => unhide HF k hk1 hk60 W)
            have Z1 : ∀ x, (plus wr.drew x).cell? ⟨g0, i, none⟩ = some (.int .i64 (Wm.cvAt l g d k i)) := fun x => plus_keep (w := wr.drew) ci x
            have Z2 : ∀ x, (plus wr.drew x).cell? ⟨b, o + d, none⟩ = some (.int .i64 (l.getD d 0)) := fun x => plus_keep (w := wr.drew) c2 x
            have Z3 : ∀ x, (plus wr.drew x).frozen? ⟨g0, i, none⟩ = false := fun x => (plus_keep_frozen (w := wr.drew) ci x).trans fi
            have C' := hide (fun (x : World) => ext_call (w := wr.drew) (x := x) (unhide C (plus wr.drew x)))
            have wi1 : IntKind.i64.wrap (((d : Int) + 1) * (k : Int)) = ((d : Int) + 1) * (k : Int) := IntWalk.i64_in _ (by omega)
            have hi0 : (0 : Int) ≤ (i : Int) := by omega
            have hi1 : (i : Int) < (n : Int) := by omega
            have hd0 : (0 : Int) ≤ (d : Int) := by omega
            have hd1 : (d : Int) < (n : Int) := by omega
            have wm : IntKind.i64.wrap (l.getD d 0 * g k) = l.getD d 0 * g k := IntWalk.i64_in _ (by omega)
            have ws : IntKind.i64.wrap (Wm.cvAt l g d k i + l.getD d 0 * g k) = Wm.cvAt l g d k i + l.getD d 0 * g k := IntWalk.i64_in _ (by omega)
            have wi2 : IntKind.i64.wrap (i : Int) = (i : Int) := IntWalk.i64_in _ (by omega)
            have wi3 : IntKind.i64.wrap (d : Int) = (d : Int) := IntWalk.i64_in _ (by omega)
            have HSTEP := hide hstep
            have HMI := hide hmi
            clear hdk hdk6 hpos bz bl bg bm hstep ci c2 fi hi hle C
            generalize Wm.cvAt l g d k i = Y at *
            generalize l.getD d 0 = X at *
            generalize g k = G at *
            go_wp2
            refine wp_region_tail 18 (fun w w' => ∃ x, w' = plus w x) (fun w => Ext.plus (Ext.refl w)) (fun _ _ d _ _ h => by cases d <;> exact h) (by kernel_rfl) (by kernel_rfl) ?_
            show wpQuiet _ _ _ _ (_ :: _ :: _ :: _ :: _ :: _ :: _ :: _ :: _ :: _ :: _ :: _ :: _ :: _ :: _ :: _ :: _ :: _ :: []) _
            repeat (go_big_quiet_step ((go_at_call 63; exact unhide C' _)))
            refine wpQuiet_nil ?_
            rintro wq ⟨xq, rfl⟩
            have EX : Ext wr (plus wr.drew xq) := ((Ext.refl wr).drew).trans (plus_ext wr.drew xq)
            have MK := (M2.keep EX).set (j := i) (by omega) (.int .i64 (Y + X * G))
            rw [unhide HSTEP] at MK
            have EK : Ext w1 ((plus wr.drew xq).setCell ⟨g0, i, none⟩ (.int .i64 (Y + X * G))) := (hext2.trans EX).setCell hgb _
            show wpList _ _ _ (_ :: []) _ _
            go_wp2
            go_roundw
            case rel => exact ⟨k + 1, by omega, by omega, by go_num, MK, EK⟩
            case measure => simp [intOf]; omega
          · have hend := hide (Wm.cvs_end (f := l) (g := g) (n := n) (d := d) (k := k) (by omega))
            have hgt : ¬ ((d : Int) + 1) * (k : Int) ≤ (n : Int) := by omega
            clear hdk hdk6 hle
            go_wp2
            go_roundw
            case rel => exact ⟨d + 1, by omega, by go_num, by rw [← Wm.cvs_one, ← unhide hend]; exact M2, hext2⟩
            case measure => simp [intOf]; omega
      · obtain rfl : d = n := by omega
        rw [← Wm.cvs_one] at M
        go_wp2
        go_ret2
        exact ⟨.inr ⟨unhide H0, _, M.mono (by rw [unhide G0]; exact E1.size), rfl⟩, E1.trans hext⟩
  · have H0 := hide h0
    have b1 : ((checkR n l) != 0) = true := by rw [bne_iff_ne]; exact h0
    clear R hF hg
    generalize hq : checkR n l = q at *
    have HQ := hide hq
    clear hq
    go_enter Try.func61, Try.ntmps61
    go_wp2_with fail
    refine (unhide HC).mono ?_
    rintro e w1 ⟨rfl, E1⟩
    go_wp2
    go_ret2
    exact ⟨.inl ⟨by rw [unhide HQ]; exact h0, by rw [unhide HQ]; rfl⟩, E1⟩



end Go.Proofs.Ytjlofcccijcanaa
