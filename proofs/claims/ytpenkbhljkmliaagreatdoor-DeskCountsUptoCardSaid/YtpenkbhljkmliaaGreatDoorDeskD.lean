import Derived.Test.YtpenkbhljkmliaaGreatDoorDesk5
import Derived.Test.YtpenkbhljkmliaaGreatDoorDesk7
import Derived.Test.YtpenkbhljkmliaaGreatDoorDeskZ
import Derived.Test.YtpenkbhljkmliaaGreatDoorTri
/-
  The contract of desk.computed: its five ways, one text each way's walk.
-/
set_option linter.unusedVariables false
set_option linter.unusedSimpArgs false
namespace Go.Proofs.YtpenkbhljkmliaaGreatDoor
open Go.RowKit Go.BigFrame

/-- What a command answers: its text, or the panic of its error. -/
def StrPost (r : Except Int ByteArray) (e : Ending) : Prop := match r with
  | .ok b => e = .returned (.string b)
  | .error er => e = thrown er
theorem nums_eq (l : List Int) (k : Nat) (h : l.length = k) : numsF l k ++ ⟨#[46]⟩ = numsB l := by
  unfold numsF numsB
  rw [List.take_of_length_le (by omega)]
/-- A list of numbers that are ints. -/
def AllI (l : List Int) : Prop := ∀ x ∈ l, -9223372036854775808 ≤ x ∧ x ≤ 9223372036854775807
theorem two_of {ns : List Nat} (h : ns.length = 2) : ∃ a b, ns = [a, b] := by
  match ns, h with
  | [a, b], _ => exact ⟨a, b, rfl⟩
theorem one_of {ns : List Nat} (h : ns.length = 1) : ∃ a, ns = [a] := by
  match ns, h with
  | [a], _ => exact ⟨a, rfl⟩

theorem numbers_new (l : List Int) (k : Nat) (cs : Array Value) (hcs : cs = (ints l).toArray) (hk : l.length = k) (hk2 : k ≤ 1000) (hl : AllI l) (w : World) (HT : Lib.TabIs Tryz.prog w "internal/strconv.uint64pow10" .u64 Lib.pow10Tab) :
    Calls Tryz.prog 32 #[.slice (some ⟨w.heap.size, 0, none⟩) k k] (w.alloc (.cells cs 3)) fun e w' => e = .returned (.string (numsB l)) ∧ Ext w w' := by
  have hr := row_new w cs 3 k 1 (by rw [hcs]; simp [ints, hk])
  rw [show cs.toList = ints l by rw [hcs]] at hr
  refine (numbers_ok _ k k l _ hr hk2 hl (tab_ext HT ((Ext.refl w).alloc _))).mono fun e w' ⟨he, hE⟩ => ⟨?_, ((Ext.refl w).alloc _).trans hE⟩
  rw [he, nums_eq l k hk]

section
variable (A : Option Addr) (m c : Nat) (ws : List ByteArray) (w : World)
set_option maxRecDepth 100000 in
set_option maxHeartbeats 2000000 in
theorem comp_gcd (R : Row w A m 1 (strs ws)) (hm : m ≤ 9223372036854775807) (HT : Lib.TabIs Tryz.prog w "internal/strconv.uint64pow10" .u64 Lib.pow10Tab) :
    Calls Tryz.prog 22 #[.string cGcd, .slice A m c] w fun e w' => StrPost (compT cGcd ws) e ∧ Ext w w' := by
  have hC : compT cGcd ws = (formT ws [false, false]).bind fun r => .ok (numsB [bezX (r.1.getD 0 0) (r.1.getD 1 0), bezY (r.1.getD 0 0) (r.1.getD 1 0), (Nat.gcd (r.1.getD 0 0) (r.1.getD 1 0) : Int)]) := by
    unfold compT; rw [if_pos rfl]
  rw [hC]
  have CF : Hid (Calls Tryz.prog 28 #[.slice A m c, .string ⟨#[110, 110]⟩] w fun e w' => FormPost (formT ws [false, false]) w e w' ∧ Ext w w') := hide (form_any A m c ws [false, false] w R hm (by decide))
  have HTT := hide HT
  have hfo := fun ns x h => formT_ok (ws := ws) (f := [false, false]) (ns := ns) (x := x) h
  generalize formT ws [false, false] = r at *
  unfold cGcd
  cases r with
  | error er =>
    clear hC hfo
    go_enter Tryz.func22, Tryz.ntmps22
    go_wp2_with fail
    refine (unhide CF).mono ?_
    rintro e w1 ⟨rfl, E1⟩
    unfold thrown
    go_wp2
    exact ⟨rfl, (show StrPost (.error er) (thrown er) from rfl), E1⟩
  | ok r =>
    obtain ⟨ns, x⟩ := r
    obtain ⟨-, hl, hs⟩ := hfo ns x rfl
    obtain ⟨a, b, rfl⟩ := two_of hl
    have ha := hs a (by simp)
    have hb := hs b (by simp)
    have CB := hide (fun W => bezout_nat a b ha hb W)
    have hbd : ∃ v1 v2 v3 : Int, v1 = bezX a b ∧ v2 = bezY a b ∧ v3 = (Nat.gcd a b : Int) := ⟨_, _, _, rfl, rfl, rfl⟩
    obtain ⟨v1, v2, v3, h1, h2, h3⟩ := hbd
    obtain ⟨s1, s2, s3⟩ := bez_small a b ha hb w
    have CN : Hid (∀ W, Lib.TabIs Tryz.prog W "internal/strconv.uint64pow10" .u64 Lib.pow10Tab → Calls Tryz.prog 32 #[.slice (some ⟨W.heap.size, 0, none⟩) 3 3] (W.alloc (.cells #[.int .i64 v1, .int .i64 v2, .int .i64 v3] 3)) fun e w' => e = .returned (.string (numsB [v1, v2, v3])) ∧ Ext W w') := hide (fun W T => numbers_new [v1, v2, v3] 3 _ rfl rfl (by decide) (by
      rw [← h1] at s1
      rw [← h2] at s2
      rw [← h3] at s3
      intro x hx
      simp only [List.mem_cons, List.mem_nil_iff, or_false] at hx
      rcases hx with rfl | rfl | rfl <;> omega) W T)
    have HG := hide (show Except.bind (Except.ok ([a, b], x)) (fun (r : List Nat × ByteArray) => (.ok (numsB [bezX (r.1.getD 0 0) (r.1.getD 1 0), bezY (r.1.getD 0 0) (r.1.getD 1 0), (Nat.gcd (r.1.getD 0 0) (r.1.getD 1 0) : Int)]) : Except Int ByteArray)) = .ok (numsB [v1, v2, v3]) from by rw [h1, h2, h3]; rfl)
    rw [← h1, ← h2, ← h3] at CB
    clear hC hfo hl hs h1 h2 h3 s1 s2 s3
    go_enter Tryz.func22, Tryz.ntmps22
    go_wp2_with fail
    refine (unhide CF).mono ?_
    rintro e w1 ⟨⟨v, rfl, HO⟩, E1⟩
    obtain ⟨g, cap, rfl, hg, hgl, hcap, -, hcell⟩ := row_open HO (by show 0 < 2; omega)
    have c0 : w1.cell? ⟨g, 0, none⟩ = some (.int .i64 (a : Int)) := (hcell 0 (by show 0 < 2 * 1; omega)).trans rfl
    have c1 : w1.cell? ⟨g, 1, none⟩ = some (.int .i64 (b : Int)) := (hcell 1 (by show 1 < 2 * 1; omega)).trans rfl
    have HE1 := hide E1
    clear HO hcell E1
    go_wp2_with fail
    go_quiet ((first | (go_at_call 31; exact quiet_in (unhide CB)) | (go_at_call 31; exact quiet_in_add (unhide CB))))
    have HE2 := hide ((unhide HE1).drewN nq)
    generalize w1.drewN nq = w2 at *
    go_wp2_with fail
    refine (check_ok _).mono ?_
    rintro e w3 ⟨rfl, rfl⟩
    go_wp2_with fail
    refine (unhide CN _ (tab_ext (unhide HTT) (unhide HE2))).mono ?_
    rintro e w4 ⟨rfl, E4⟩
    have HE4 := hide ((unhide HE2).trans E4)
    go_wp2
    go_ret
    rw [unhide HG]
    exact ⟨rfl, unhide HE4⟩

set_option maxRecDepth 100000 in
set_option maxHeartbeats 2000000 in
theorem comp_root (R : Row w A m 1 (strs ws)) (hm : m ≤ 9223372036854775807) (HT : Lib.TabIs Tryz.prog w "internal/strconv.uint64pow10" .u64 Lib.pow10Tab) :
    Calls Tryz.prog 22 #[.string cRoot, .slice A m c] w fun e w' => StrPost (compT cRoot ws) e ∧ Ext w w' := by
  have hC : compT cRoot ws = (formT ws [false, false]).bind fun r => rootT (r.1.getD 0 0) (r.1.getD 1 0) := by
    unfold compT; rw [if_neg (by decide +kernel), if_neg (by decide +kernel), if_pos rfl]
  rw [hC]
  have CF : Hid (Calls Tryz.prog 28 #[.slice A m c, .string ⟨#[110, 110]⟩] w fun e w' => FormPost (formT ws [false, false]) w e w' ∧ Ext w w') := hide (form_any A m c ws [false, false] w R hm (by decide))
  have HTT := hide HT
  have hfo := fun ns x h => formT_ok (ws := ws) (f := [false, false]) (ns := ns) (x := x) h
  generalize formT ws [false, false] = r at *
  unfold cRoot
  cases r with
  | error er =>
    clear hC hfo
    go_enter Tryz.func22, Tryz.ntmps22
    go_wp2_with fail
    refine (unhide CF).mono ?_
    rintro e w1 ⟨rfl, E1⟩
    unfold thrown
    go_wp2
    exact ⟨rfl, (show StrPost (.error er) (thrown er) from rfl), E1⟩
  | ok r =>
    obtain ⟨ns, x⟩ := r
    obtain ⟨-, hl, hs⟩ := hfo ns x rfl
    obtain ⟨a, b, rfl⟩ := two_of hl
    have hb := hs b (by simp)
    have CB := hide (fun W => root_any a b hb W)
    have hG : Except.bind (Except.ok ([a, b], x)) (fun (r : List Nat × ByteArray) => rootT (r.1.getD 0 0) (r.1.getD 1 0)) = rootT a b := rfl
    rw [hG, (rootV_T a b).1]
    have h6 := (rootV_T a b).2
    generalize rootV a b = V at *
    obtain ⟨v, er⟩ := V
    have CN : Hid (∀ W, Lib.TabIs Tryz.prog W "internal/strconv.uint64pow10" .u64 Lib.pow10Tab → Calls Tryz.prog 32 #[.slice (some ⟨W.heap.size, 0, none⟩) 1 1] (W.alloc (.cells #[.int .i64 (v : Int)] 3)) fun e w' => e = .returned (.string (numsB [(v : Int)])) ∧ Ext W w') := hide (fun W T => numbers_new [(v : Int)] 1 _ rfl rfl (by decide) (by
      intro x hx
      simp only [List.mem_cons, List.mem_nil_iff, or_false] at hx
      subst hx
      have h6 : v ≤ 1000000 := h6
      omega) W T)
    clear hC hfo hl hs h6 hG
    show Calls _ _ _ _ fun e w' => StrPost (if er = 0 then .ok (numsB [(v : Int)]) else .error er) e ∧ Ext w w'
    by_cases he : er = 0
    · subst he
      rw [if_pos rfl]
      go_enter Tryz.func22, Tryz.ntmps22
      go_wp2_with fail
      refine (unhide CF).mono ?_
      rintro e w1 ⟨⟨v0, rfl, HO⟩, E1⟩
      obtain ⟨g, cap, rfl, hg, hgl, hcap, -, hcell⟩ := row_open HO (by show 0 < 2; omega)
      have c0 := plus_keep (show w1.cell? ⟨g, 0, none⟩ = some (.int .i64 (a : Int)) from (hcell 0 (by show 0 < 2 * 1; omega)).trans rfl)
      have c1 := plus_keep (show w1.cell? ⟨g, 1, none⟩ = some (.int .i64 (b : Int)) from (hcell 1 (by show 1 < 2 * 1; omega)).trans rfl)
      have HE1 := hide E1
      clear HO hcell E1
      go_wp2_with fail
      refine wp_region_ext (by kernel_rfl) (by kernel_rfl) ?_
      repeat (go_big_quiet_step ((go_at_call 34; exact ext_call (unhide CB _))))
      refine wpQuiet_nil ?_
      rintro w2 ⟨xq, hxq⟩
      have HE2 := hide ((unhide HE1).trans (show Ext w1 w2 by rw [hxq]; exact plus_ext _ _))
      clear c0 c1 hxq
      go_wp2_with fail
      refine (check_ok _).mono ?_
      rintro e w3 ⟨rfl, rfl⟩
      go_wp2_with fail
      refine (unhide CN _ (tab_ext (unhide HTT) (unhide HE2))).mono ?_
      rintro e w4 ⟨rfl, E4⟩
      have HE4 := hide ((unhide HE2).trans E4)
      go_wp2
      go_ret
      exact ⟨rfl, unhide HE4⟩
    · rw [if_neg he]
      go_enter Tryz.func22, Tryz.ntmps22
      go_wp2_with fail
      refine (unhide CF).mono ?_
      rintro e w1 ⟨⟨v0, rfl, HO⟩, E1⟩
      obtain ⟨g, cap, rfl, hg, hgl, hcap, -, hcell⟩ := row_open HO (by show 0 < 2; omega)
      have c0 := plus_keep (show w1.cell? ⟨g, 0, none⟩ = some (.int .i64 (a : Int)) from (hcell 0 (by show 0 < 2 * 1; omega)).trans rfl)
      have c1 := plus_keep (show w1.cell? ⟨g, 1, none⟩ = some (.int .i64 (b : Int)) from (hcell 1 (by show 1 < 2 * 1; omega)).trans rfl)
      have HE1 := hide E1
      clear HO hcell E1
      go_wp2_with fail
      refine wp_region_ext (by kernel_rfl) (by kernel_rfl) ?_
      repeat (go_big_quiet_step ((go_at_call 34; exact ext_call (unhide CB _))))
      refine wpQuiet_nil ?_
      rintro w2 ⟨xq, hxq⟩
      have HE2 := hide ((unhide HE1).trans (show Ext w1 w2 by rw [hxq]; exact plus_ext _ _))
      clear c0 c1 hxq
      go_wp2_with fail
      refine (check_bad _ he _).mono ?_
      rintro e w3 ⟨rfl, rfl⟩
      unfold thrown
      go_wp2
      exact ⟨rfl, (show StrPost (.error er) (thrown er) from rfl), unhide HE2⟩

set_option maxRecDepth 100000 in
set_option maxHeartbeats 2000000 in
theorem comp_code (R : Row w A m 1 (strs ws)) (hm : m ≤ 9223372036854775807) (HT : Lib.TabIs Tryz.prog w "internal/strconv.uint64pow10" .u64 Lib.pow10Tab) :
    Calls Tryz.prog 22 #[.string cCode, .slice A m c] w fun e w' => StrPost (compT cCode ws) e ∧ Ext w w' := by
  have hC : compT cCode ws = (formT ws [false]).bind fun r => if 2048 ≤ r.1.getD 0 0 then .error 1 else .ok (numsB [(Wm.hput (r.1.getD 0 0) : Int)]) := by
    unfold compT; rw [if_neg (by decide +kernel), if_neg (by decide +kernel), if_neg (by decide +kernel), if_pos rfl]
  rw [hC]
  have CF : Hid (Calls Tryz.prog 28 #[.slice A m c, .string ⟨#[110]⟩] w fun e w' => FormPost (formT ws [false]) w e w' ∧ Ext w w') := hide (form_any A m c ws [false] w R hm (by decide))
  have HTT := hide HT
  have hfo := fun ns x h => formT_ok (ws := ws) (f := [false]) (ns := ns) (x := x) h
  generalize formT ws [false] = r at *
  unfold cCode
  cases r with
  | error er =>
    clear hC hfo
    go_enter Tryz.func22, Tryz.ntmps22
    go_wp2_with fail
    refine (unhide CF).mono ?_
    rintro e w1 ⟨rfl, E1⟩
    unfold thrown
    go_wp2
    exact ⟨rfl, (show StrPost (.error er) (thrown er) from rfl), E1⟩
  | ok r =>
    obtain ⟨ns, x⟩ := r
    obtain ⟨-, hl, hs⟩ := hfo ns x rfl
    obtain ⟨a, rfl⟩ := one_of hl
    have ha := hs a (by simp)
    have hG : Except.bind (Except.ok ([a], x)) (fun (r : List Nat × ByteArray) => (if 2048 ≤ r.1.getD 0 0 then .error 1 else .ok (numsB [(Wm.hput (r.1.getD 0 0) : Int)]) : Except Int ByteArray)) = if 2048 ≤ a then .error 1 else .ok (numsB [(Wm.hput a : Int)]) := rfl
    rw [hG]
    clear hC hfo hl hs hG
    by_cases h16 : 65535 < a
    · rw [if_pos (by omega)]
      have i1 : decide ((65535 : Int) < (a : Int)) = true := decide_eq_true (by omega)
      clear h16 ha
      go_enter Tryz.func22, Tryz.ntmps22
      go_wp2_with fail
      refine (unhide CF).mono ?_
      rintro e w1 ⟨⟨v0, rfl, HO⟩, E1⟩
      obtain ⟨g, cap, rfl, hg, hgl, hcap, -, hcell⟩ := row_open HO (by show 0 < 1; omega)
      have c0 : w1.cell? ⟨g, 0, none⟩ = some (.int .i64 (a : Int)) := (hcell 0 (by show 0 < 1 * 1; omega)).trans rfl
      clear HO hcell
      go_wp2
      exact ⟨rfl, (show StrPost (.error 1) (thrown 1) from rfl), E1⟩
    have i1 : decide ((65535 : Int) < (a : Int)) = false := decide_eq_false (by omega)
    have hu : IntKind.u16.wrap (a : Int) = (a : Int) := IntWalk.u16_in _ (by omega)
    by_cases h11 : 2048 ≤ a
    · rw [if_pos h11]
      have CP := hide (fun W => hPut_bad a h11 (by omega) W)
      clear h11 h16 ha
      go_enter Tryz.func22, Tryz.ntmps22
      go_wp2_with fail
      refine (unhide CF).mono ?_
      rintro e w1 ⟨⟨v0, rfl, HO⟩, E1⟩
      obtain ⟨g, cap, rfl, hg, hgl, hcap, -, hcell⟩ := row_open HO (by show 0 < 1; omega)
      have c0 : w1.cell? ⟨g, 0, none⟩ = some (.int .i64 (a : Int)) := (hcell 0 (by show 0 < 1 * 1; omega)).trans rfl
      clear HO hcell
      go_wp2_with fail
      refine (unhide CP _).mono ?_
      rintro e w2 ⟨rfl, rfl⟩
      go_wp2_with fail
      refine (check_bad 1 (by decide) _).mono ?_
      rintro e w3 ⟨rfl, rfl⟩
      unfold thrown
      go_wp2
      exact ⟨rfl, (show StrPost (.error 1) (thrown 1) from rfl), E1⟩
    · rw [if_neg h11]
      have CP := hide (fun W => hPut_ok a (by omega) W)
      have hlt : Wm.hput a < 32768 := Wm.hset_lt _ _ (show (Wm.hlay a 15).1 < 32768 from (Wm.hlay_lt a 15).1) 4 (by omega)
      have CN : Hid (∀ W, Lib.TabIs Tryz.prog W "internal/strconv.uint64pow10" .u64 Lib.pow10Tab → Calls Tryz.prog 32 #[.slice (some ⟨W.heap.size, 0, none⟩) 1 1] (W.alloc (.cells #[.int .i64 (Wm.hput a : Int)] 3)) fun e w' => e = .returned (.string (numsB [(Wm.hput a : Int)])) ∧ Ext W w') := hide (fun W T => numbers_new [(Wm.hput a : Int)] 1 _ rfl rfl (by decide) (by
        intro x hx
        simp only [List.mem_cons, List.mem_nil_iff, or_false] at hx
        subst hx
        omega) W T)
      have hi : IntKind.i64.wrap (Wm.hput a : Int) = (Wm.hput a : Int) := IntWalk.i64_in _ (by omega)
      generalize Wm.hput a = z at *
      clear h11 h16 ha hlt
      go_enter Tryz.func22, Tryz.ntmps22
      go_wp2_with fail
      refine (unhide CF).mono ?_
      rintro e w1 ⟨⟨v0, rfl, HO⟩, E1⟩
      obtain ⟨g, cap, rfl, hg, hgl, hcap, -, hcell⟩ := row_open HO (by show 0 < 1; omega)
      have c0 : w1.cell? ⟨g, 0, none⟩ = some (.int .i64 (a : Int)) := (hcell 0 (by show 0 < 1 * 1; omega)).trans rfl
      have HE1 := hide E1
      clear HO hcell E1
      go_wp2_with fail
      refine (unhide CP _).mono ?_
      rintro e w2 ⟨rfl, rfl⟩
      go_wp2_with fail
      refine (check_ok _).mono ?_
      rintro e w3 ⟨rfl, rfl⟩
      go_wp2_with fail
      refine (unhide CN _ (tab_ext (unhide HTT) (unhide HE1))).mono ?_
      rintro e w4 ⟨rfl, E4⟩
      have HE4 := hide ((unhide HE1).trans E4)
      go_wp2
      go_ret
      exact ⟨rfl, unhide HE4⟩
end
end Go.Proofs.YtpenkbhljkmliaaGreatDoor

/-
  The contract of desk.computed: factor, and what is no command; all ways together.
-/
set_option linter.unusedVariables false
set_option linter.unusedSimpArgs false
namespace Go.Proofs.YtpenkbhljkmliaaGreatDoor
open Go.RowKit Go.BigFrame

/-- Texts that differ differ as lists. -/
theorem ne_list {a b : ByteArray} {l : List UInt8} (hb : b.data.toList = l) (h : a ≠ b) : (a.toList == l) = false := by
  rw [beq_eq_false_iff_ne]
  intro e
  rw [ByteArray.toList_eq, ← hb] at e
  apply h
  cases a; cases b
  congr 1
  exact Array.toList_inj.1 e
theorem pow_len : ∀ (l : List (Nat × Nat)), (∀ x ∈ l, Wm.Prime x.1 ∧ 1 ≤ x.2) → 2 ^ l.length ≤ Wm.prodP l
  | [], _ => Nat.le_refl _
  | x :: l, h => by
    have hx := h x List.mem_cons_self
    have h2 : 2 ≤ x.1 := hx.1.1
    have h3 : x.1 ≤ x.1 ^ x.2 := Nat.le_self_pow (by omega) _
    have ih := pow_len l fun y hy => h y (List.mem_cons_of_mem _ hy)
    rw [List.length_cons, Nat.pow_succ, Nat.mul_comm]
    exact Nat.mul_le_mul (by omega) ih
theorem fac_len {n : Nat} {l : List (Nat × Nat)} (h : Wm.IsFac n l) (hn : n ≤ 1000000) : l.length ≤ 19 := by
  have h1 := pow_len l h.2.1
  rw [h.2.2] at h1
  rcases Nat.lt_or_ge 19 l.length with h2 | h2
  · have : 2 ^ 20 ≤ 2 ^ l.length := Nat.pow_le_pow_right (by omega) h2
    omega
  · exact h2
theorem facI_step (l : List (Nat × Nat)) (k : Nat) (h : k < l.length) : facI (l.take (k + 1)) = facI (l.take k) ++ [((l.getD k (0, 0)).1 : Int), ((l.getD k (0, 0)).2 : Int)] := by
  rw [List.take_succ_eq_append_getElem h, List.getD_eq_getElem?_getD, List.getElem?_eq_getElem h]
  unfold facI
  rw [List.flatMap_append]
  rfl
theorem facI_len : ∀ l : List (Nat × Nat), (facI l).length = 2 * l.length
  | [] => rfl
  | x :: l => by
    have := facI_len l
    simp only [facI, List.flatMap_cons, List.length_append, List.length_cons, List.length_nil] at this ⊢
    omega
theorem facI_small {n : Nat} {l : List (Nat × Nat)} (h : Wm.IsFac n l) (hn : n ≤ 1000000) : AllI (facI l) := by
  intro x hx
  obtain ⟨p, hp, hx⟩ := List.mem_flatMap.1 hx
  have := fac_small' h hn hp
  simp only [List.mem_cons, List.mem_nil_iff, or_false] at hx
  rcases hx with rfl | rfl <;> omega

section
variable (A : Option Addr) (m c : Nat) (ws : List ByteArray) (w : World)
set_option maxRecDepth 100000 in
set_option maxHeartbeats 2000000 in
theorem comp_factor (R : Row w A m 1 (strs ws)) (hm : m ≤ 9223372036854775807) (HT : Lib.TabIs Tryz.prog w "internal/strconv.uint64pow10" .u64 Lib.pow10Tab) :
    Calls Tryz.prog 22 #[.string cFactor, .slice A m c] w fun e w' => StrPost (compT cFactor ws) e ∧ Ext w w' := by
  have hC : compT cFactor ws = (formT ws [false]).bind fun r => if r.1.getD 0 0 < 1 ∨ 1000000 < r.1.getD 0 0 then .error 1 else .ok (numsB (facI (facL (r.1.getD 0 0)))) := by
    unfold compT; rw [if_neg (by decide +kernel), if_pos rfl]
  rw [hC]
  have CF : Hid (Calls Tryz.prog 28 #[.slice A m c, .string ⟨#[110]⟩] w fun e w' => FormPost (formT ws [false]) w e w' ∧ Ext w w') := hide (form_any A m c ws [false] w R hm (by decide))
  have HTT := hide HT
  have hfo := fun ns x h => formT_ok (ws := ws) (f := [false]) (ns := ns) (x := x) h
  generalize formT ws [false] = r at *
  unfold cFactor
  cases r with
  | error er =>
    clear hC hfo
    go_enter Tryz.func22, Tryz.ntmps22
    go_wp2_with fail
    refine (unhide CF).mono ?_
    rintro e w1 ⟨rfl, E1⟩
    unfold thrown
    go_wp2
    exact ⟨rfl, (show StrPost (.error er) (thrown er) from rfl), E1⟩
  | ok r =>
    obtain ⟨ns, x⟩ := r
    obtain ⟨-, hl, hs⟩ := hfo ns x rfl
    obtain ⟨a, rfl⟩ := one_of hl
    have ha := hs a (by simp)
    have hG : Except.bind (Except.ok ([a], x)) (fun (r : List Nat × ByteArray) => (if r.1.getD 0 0 < 1 ∨ 1000000 < r.1.getD 0 0 then .error 1 else .ok (numsB (facI (facL (r.1.getD 0 0)))) : Except Int ByteArray)) = if a < 1 ∨ 1000000 < a then .error 1 else .ok (numsB (facI (facL a))) := rfl
    rw [hG]
    clear hC hfo hl hs hG
    by_cases hb : a < 1 ∨ 1000000 < a
    · rw [if_pos hb]
      have CP := hide (fun W => Factor_bad (a : Int) (by omega) W)
      clear hb ha
      go_enter Tryz.func22, Tryz.ntmps22
      go_wp2_with fail
      refine (unhide CF).mono ?_
      rintro e w1 ⟨⟨v0, rfl, HO⟩, E1⟩
      obtain ⟨g, cap, rfl, hg, hgl, hcap, -, hcell⟩ := row_open HO (by show 0 < 1; omega)
      have c0 : w1.cell? ⟨g, 0, none⟩ = some (.int .i64 (a : Int)) := (hcell 0 (by show 0 < 1 * 1; omega)).trans rfl
      clear HO hcell
      go_wp2_with fail
      refine (unhide CP _).mono ?_
      rintro e w2 ⟨rfl, rfl⟩
      go_wp2_with fail
      refine (check_bad 1 (by decide) _).mono ?_
      rintro e w3 ⟨rfl, rfl⟩
      unfold thrown
      go_wp2
      exact ⟨rfl, (show StrPost (.error 1) (thrown 1) from rfl), E1⟩
    · rw [if_neg hb]
      have h1 : 1 ≤ a := by omega
      have h6 : a ≤ 1000000 := by omega
      have CP := hide (fun W => Factor_ok a h1 h6 W)
      have HA6 := hide h6
      clear hb ha h1 h6
      go_enter Tryz.func22, Tryz.ntmps22
      go_wp2_with fail
      refine (unhide CF).mono ?_
      rintro e w1 ⟨⟨v0, rfl, HO⟩, E1⟩
      obtain ⟨g, cap, rfl, hg, hgl, hcap, -, hcell⟩ := row_open HO (by show 0 < 1; omega)
      have c0 : w1.cell? ⟨g, 0, none⟩ = some (.int .i64 (a : Int)) := (hcell 0 (by show 0 < 1 * 1; omega)).trans rfl
      have HE1 := hide E1
      clear HO hcell E1
      go_wp2_with fail
      refine (unhide CP _).mono ?_
      rintro e w2 ⟨⟨l, v1, hfac, rfl, HO⟩, E2⟩
      obtain ⟨Al, cl, rfl, RL, hcl, -, -⟩ := row_of_own HO
      have HFA := hide (show facL a = l from facL_eq hfac)
      have hlen := fac_len hfac (unhide HA6)
      have HSM := hide (facI_small hfac (unhide HA6))
      have HRL := hide RL
      have HE2 := hide ((unhide HE1).trans E2)
      have HGET := hide (fun k (hk : k < l.length) => castP_get' l k hk)
      clear hfac HO RL c0 E2 hcap hgl hg
      go_wp2_with fail
      refine (check_ok _).mono ?_
      rintro e w3 ⟨rfl, rfl⟩
      obtain ⟨L, hL⟩ : ∃ L, L = l.length := ⟨_, rfl⟩
      rw [← hL] at hlen HRL hcl ⊢
      have HLL := hide hL
      clear hL
      go_wp2
      go_loopw [15, 71] (fun v i wr => ∃ k : Nat, k ≤ L ∧ i = .int .i64 k ∧ Hid (wr.ownsRow w3.heap.size 3 1 v (facI (l.take k)).length (ints (facI (l.take k)))) ∧ Hid (Ext w3 wr)) (fun _ i _ => L - (intOf i).toNat)
      case atStart => exact ⟨0, Nat.zero_le _, rfl, hide (World.ownsRow_nil _ _ _ _), hide (Ext.refl _)⟩
      case round =>
        obtain ⟨k, hk, rfl, HO, HX⟩ := hrel
        by_cases hlt : k < L
        · have hkl : k < l.length := by have := unhide HLL; omega
          obtain ⟨b, o, rfl, hb, d0, d1⟩ := ((unhide HRL).keep (unhide HX)).pair hlt
          rw [unhide HGET k hkl] at d0 d1
          have HST := hide (facI_step l k hkl)
          have hfl : (facI (l.take k)).length = 2 * k := by rw [facI_len, List.length_take]; omega
          have hbd : ((facI (l.take k)).length + 2) * 8 ≤ 140737488355328 ∧ (facI (l.take k)).length + 2 ≤ 9223372036854775807 := by omega
          generalize (l.getD k (0, 0)).1 = P at *
          generalize (l.getD k (0, 0)).2 = N at *
          have hext2 := (unhide HX).alloc (.cells #[.int .i64 (P : Int), .int .i64 (N : Int)] 80)
          have HBD := hide hbd
          clear hfl hbd hkl
          go_wp2_with (at_builtin; refine stop ?_)
          unfold Stop
          refine wpList_app (w := wr.alloc (.cells #[.int .i64 (P : Int), .int .i64 (N : Int)] 80)) (cs := #[.int .i64 (P : Int), .int .i64 (N : Int)]) rfl _ _ 61 (by rfl) 3 intD hext2 _ _ _ (by rfl) (row_ext (unhide HO) ((Ext.refl _).alloc _)) 2 2 (by show Value.slice (some ⟨wr.heap.size + 1, 0, none⟩) 2 2 = _; simp) rfl rfl (unhide HBD) ?_
          intro v' w5 hown' hext' hgr
          have HO2 := hide (show w5.ownsRow w3.heap.size 3 1 v' (facI (l.take (k + 1))).length (ints (facI (l.take (k + 1)))) by
            rw [unhide HST, List.length_append, ← ints_append]
            exact hown')
          have HX2 := hide hext'
          clear hown' hext' hext2 hgr HST HO
          go_wp2
          go_roundw
          case rel => exact ⟨k + 1, by omega, by go_num, HO2, HX2⟩
          case measure => simp [intOf]; omega
        · obtain rfl : k = L := by omega
          have HO1 := hide (show wr.ownsRow w3.heap.size 3 1 _ (facI l).length (ints (facI l)) from by
            have h := unhide HO
            rw [List.take_of_length_le (by have := unhide HLL; omega)] at h
            exact h)
          obtain ⟨Ao, co, rfl, RO, hco, -, -⟩ := row_of_own (unhide HO1)
          have hfl : (facI l).length ≤ 1000 := by rw [facI_len]; have := unhide HLL; omega
          have CN := hide (numbers_ok Ao (facI l).length co (facI l) wr RO hfl (unhide HSM) (tab_ext (unhide HTT) ((unhide HE2).trans (unhide HX))))
          have HNE := hide (nums_eq (facI l) _ rfl)
          clear HO HO1 RO hfl
          generalize (facI l).length = Lf at *
          go_wp2_with fail
          refine (unhide CN).mono ?_
          rintro e w6 ⟨rfl, E6⟩
          have HE6 := hide (((unhide HE2).trans (unhide HX)).trans E6)
          clear E6
          go_wp2
          go_ret
          refine ⟨?_, unhide HE6⟩
          rw [unhide HFA]
          show Ending.returned _ = _
          first | (rw [unhide HNE]; done) | (rw [unhide HNE]; rfl)
set_option maxRecDepth 100000 in
set_option maxHeartbeats 1000000 in
theorem comp_none (cmd : ByteArray) (h1 : cmd ≠ cGcd) (h2 : cmd ≠ cFactor) (h3 : cmd ≠ cRoot) (h4 : cmd ≠ cCode) :
    Calls Tryz.prog 22 #[.string cmd, .slice A m c] w fun e w' => StrPost (compT cmd ws) e ∧ Ext w w' := by
  have hC : compT cmd ws = .error 12 := by
    unfold compT; rw [if_neg h1, if_neg h2, if_neg h3, if_neg h4]
  rw [hC]
  have q1 := ne_list (l := [103, 99, 100]) rfl h1
  have q2 := ne_list (l := [102, 97, 99, 116, 111, 114]) rfl h2
  have q3 := ne_list (l := [114, 111, 111, 116]) rfl h3
  have q4 := ne_list (l := [99, 111, 100, 101]) rfl h4
  clear hC h1 h2 h3 h4
  go_enter Tryz.func22, Tryz.ntmps22
  go_wp2
  exact ⟨rfl, (show StrPost (.error 12) (thrown 12) from rfl), Ext.refl _⟩
theorem comp_any (cmd : ByteArray) (R : Row w A m 1 (strs ws)) (hm : m ≤ 9223372036854775807) (HT : Lib.TabIs Tryz.prog w "internal/strconv.uint64pow10" .u64 Lib.pow10Tab) :
    Calls Tryz.prog 22 #[.string cmd, .slice A m c] w fun e w' => StrPost (compT cmd ws) e ∧ Ext w w' := by
  by_cases h1 : cmd = cGcd
  · subst h1; exact comp_gcd A m c ws w R hm HT
  by_cases h2 : cmd = cFactor
  · subst h2; exact comp_factor A m c ws w R hm HT
  by_cases h3 : cmd = cRoot
  · subst h3; exact comp_root A m c ws w R hm HT
  by_cases h4 : cmd = cCode
  · subst h4; exact comp_code A m c ws w R hm HT
  exact comp_none A m c ws w cmd h1 h2 h3 h4
end
end Go.Proofs.YtpenkbhljkmliaaGreatDoor
