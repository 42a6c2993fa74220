/-
  The laws' own trial of points, the reference ValueAt, and the laws' own points of a polynomial.
-/
import Derived.Test.YtkfdimofkkckeaaPts3
import Derived.Test.YtkfdimofkkckeaaPoly7
set_option linter.unusedVariables false
set_option linter.unusedSimpArgs false
namespace Wm
namespace Fld
variable {K : Type} [Fld K]
def pwK (x : K) : Nat → K
  | 0 => o
  | i + 1 => ml (pwK x i) x
theorem sm_first (g : Nat → K) : ∀ n, sm g (n + 1) = ad (g 0) (sm (tl g) n)
  | 0 => by show ad z (g 0) = ad (g 0) z; rw [ad_comm]
  | n + 1 => by
    show ad (sm g (n + 1)) (g (n + 1)) = ad (g 0) (ad (sm (tl g) n) (tl g n))
    rw [sm_first g n, ad_assoc]; rfl
theorem evs_sm (x : K) : ∀ (n : Nat) (f : Nat → K), evs f n x = sm (fun i => ml (f i) (pwK x i)) n
  | 0, _ => rfl
  | n + 1, f => by
    rw [sm_first]
    show ad (f 0) (ml x (evs (tl f) n x)) = ad (ml (f 0) o) (sm (fun i => ml (f (i + 1)) (ml (pwK x i) x)) n)
    rw [ml_o, evs_sm x n (tl f), ← sm_ml]
    congr 1
    exact sm_congr n fun k _ => by
      show ml x (ml (f (k + 1)) (pwK x k)) = _
      rw [ml_comm (pwK x k), ml_left]
end Fld
open Fld
/-- The value, from the front. -/
def svN (p : Nat) (f : List Nat) (x : Nat) : Nat → Nat × Nat
  | 0 => (0, 1)
  | k + 1 => (((svN p f x k).1 + f.getD k 0 * (svN p f x k).2) % p, (svN p f x k).2 * x % p)
theorem svN_succ (p : Nat) (f : List Nat) (x k : Nat) : svN p f x (k + 1) = (((svN p f x k).1 + f.getD k 0 * (svN p f x k).2) % p, (svN p f x k).2 * x % p) := rfl
theorem svN_lt {P : Pr} (f : List Nat) (x : Nat) : ∀ k, (svN P.p f x k).1 < P.p ∧ (svN P.p f x k).2 < P.p
  | 0 => ⟨P.pos, P.two⟩
  | k + 1 => ⟨Nat.mod_lt _ P.pos, Nat.mod_lt _ P.pos⟩
theorem svN_zp (P : Pr) (f : List Nat) (x : Nat) : ∀ k, zp P (svN P.p f x k).1 = sm (fun i => ml (ser P f i) (pwK (zp P x) i)) k ∧ zp P (svN P.p f x k).2 = pwK (zp P x) k
  | 0 => ⟨rfl, rfl⟩
  | k + 1 => by
    have ih := svN_zp P f x k
    refine ⟨?_, ?_⟩
    · show zp P (((svN P.p f x k).1 + f.getD k 0 * (svN P.p f x k).2) % P.p) = ad _ _
      rw [zp_mod, zp_add, zp_mul, ih.1, ih.2]; rfl
    · show zp P ((svN P.p f x k).2 * x % P.p) = ml _ _
      rw [zp_mod, zp_mul, ih.2]
theorem svN_ev (P : Pr) (f : List Nat) (x : Nat) : (svN P.p f x f.length).1 = evN P.p f x := by
  apply zp_inj (svN_lt f x _).1 (evN_lt P.pos _ _)
  rw [(svN_zp P f x _).1, evN_evs, evs_sm]
theorem prime_7q : Prime 7 := pchk_spec (r := 1) (by decide +kernel)
def P7q : Pr := ⟨7, prime_7q⟩
end Wm
namespace Go.Proofs.Ytkfdimofkkckeaa
open Go.RowKit Go.BigFrame

theorem lines_ok : PtsOk Wm.P7q [(0, 1), (1, 3)] := ⟨by decide, by decide, fun i j hi hj => by
  have hi : i < 2 := hi
  have hj : j < 2 := hj
  have : i = 0 ∨ i = 1 := by omega
  have : j = 0 ∨ j = 1 := by omega
  rcases ‹i = 0 ∨ i = 1› with rfl | rfl <;> rcases ‹j = 0 ∨ j = 1› with rfl | rfl <;> simp⟩
theorem lines_thru : ThruL Wm.P7q [(0, 1), (1, 3)] [1, 2] := ⟨⟨by decide, fun _ => by decide⟩, by decide, fun i hi => by
  have hi : i < 2 := hi
  have : i = 0 ∨ i = 1 := by omega
  rcases this with rfl | rfl <;> decide⟩

set_option maxRecDepth 100000 in
set_option maxHeartbeats 1000000 in
theorem lines_any (w : World) : Calls Try.prog 28 #[] w fun e w' => e = .returned (.bool true) ∧ Ext w w' := by
  have CT := hide (fun (W : World) (b : Nat) (R : Row W (some ⟨b, 0, none⟩) 2 2 (prs [(0, 1), (1, 3)])) => Through_ok Wm.P7q (by decide) (some ⟨b, 0, none⟩) 2 2 [(0, 1), (1, 3)] W R (by omega) (by omega) lines_ok)
  rw [show Wm.P7q.p = 7 from rfl] at CT
  go_enter Try.func28, Try.ntmps28
  go_wp2_with fail
  refine (unhide CT _ _ (row_new w #[.int .i64 0, .int .i64 1, .int .i64 1, .int .i64 3] 49 2 2 rfl)).mono ?_
  rintro e w1 ⟨⟨F, v, hF, rfl, M⟩, EN⟩
  have Fw1 : Ext w w1 := Ext.trans (by repeat (first | exact Ext.refl _ | assumption | refine Ext.alloc ?_ _ | refine Ext.drew ?_ | refine Ext.drewN ?_ _ | refine Ext.trans ?_ ‹Ext _ _›)) EN
  obtain rfl := ThruL.unique lines_ok hF lines_thru
  obtain ⟨A, c, rfl, PV⟩ := M.pv
  have CE := hide (fun (W : World) (E : Ext w1 W) (b : Nat) (S : Pv W (some ⟨b, 0, none⟩) 2 2 [1, 2]) => equal_pv A (some ⟨b, 0, none⟩) 2 2 c 2 [1, 2] [1, 2] W (PV.keep E) S)
  clear M EN hF PV CT
  go_wp2_with fail
  refine (unhide CE _ (by repeat (first | exact Ext.refl _ | assumption | refine Ext.alloc ?_ _ | refine Ext.drew ?_ | refine Ext.drewN ?_ _ | refine Ext.trans ?_ ‹Ext _ _›)) _ ⟨row_new _ #[.int .i64 1, .int .i64 2] 3 2 1 rfl, Nat.le_refl _, by omega, fun h => by cases h⟩).mono ?_
  rintro e w2 ⟨rfl, k, rfl⟩
  go_wp2
  go_ret
  exact ⟨rfl, (by repeat (first | exact Ext.refl _ | assumption | refine Ext.alloc ?_ _ | refine Ext.drew ?_ | refine Ext.drewN ?_ _ | refine Ext.trans ?_ ‹Ext _ _›))⟩

theorem rmod_any (k n : Int) (w : World) (hn : 1 ≤ n) (hn2 : n ≤ 4611686018427387904) :
    Calls Try.prog 68 #[.int .i64 k, .int .i64 n] w fun e w' => e = .returned (.int .i64 (k % n)) ∧ w' = w := by
  go_enter Try.func68, Try.ntmps68
  go_wp2_with fail
  refine (rest_any k n w hn hn2).mono ?_
  rintro e w' ⟨rfl, rfl⟩
  go_wp2
  go_ret
  exact ⟨rfl, rfl⟩

set_option maxRecDepth 100000 in
set_option maxHeartbeats 1000000 in
theorem ValueAt_ok (P : Wm.Pr) (h9 : P.p ≤ 997) (A : Option Addr) (n c : Nat) (f : List Nat) (x : Nat) (w : World) (R : Pv w A n c f) (hf : ∀ y ∈ f, y < P.p) (hn : n ≤ 100) (hx : x < P.p) :
    Calls Try.prog 56 #[.int .i64 P.p, .slice A n c, .int .i64 x] w fun e w' => e = .returned (.int .i64 ((Wm.evN P.p f x : Nat) : Int)) ∧ ∃ k, w' = w.drewN k := by
  have hlen := R.len
  have hp := P.two
  have HEV := hide (Wm.svN_ev P f x)
  have HLT := hide (Wm.svN_lt (P := P) f x)
  have HFL := hide (Wm.getD_lt_of P.pos hf)
  have CM := hide (fun w : World => rmod_any (x : Int) P.p w (by omega) (by omega))
  rw [show (x : Int) % (P.p : Int) = (x : Int) from Int.emod_eq_of_lt (by omega) (by omega)] at CM
  have HR := hide R
  have HL := hide hlen
  have t1 : (1 : Int).tmod (P.p : Int) = 1 := by rw [Int.tmod_eq_emod_of_nonneg (by omega)]; exact Int.emod_eq_of_lt (by omega) (by omega)
  have t2 : (1 : Int) % (P.p : Int) = 1 := Int.emod_eq_of_lt (by omega) (by omega)
  have pI : ¬ (P.p : Int) = 0 := by omega
  clear R hf hlen
  go_enter Try.func56, Try.ntmps56
  go_wp2
  go_quiet (fail)
  go_wp2
  go_loopw [7, 8, 15] (fun a y i wr => ∃ k : Nat, k ≤ n ∧ i = .int .i64 k ∧ a = .int .i64 ((Wm.svN P.p f x k).1 : Int) ∧ y = .int .i64 ((Wm.svN P.p f x k).2 : Int) ∧ ∃ d, wr = w.drewN d) (fun _ _ i _ => n - (intOf i).toNat)
  case atStart => exact ⟨0, Nat.zero_le _, rfl, rfl, rfl, by first | exact ⟨_, rfl⟩ | exact ⟨0, rfl⟩⟩
  case round =>
    clear t1 t2
    obtain ⟨k, hk, rfl, rfl, rfl, d, rfl⟩ := hrel
    by_cases hlt : k < n
    · obtain ⟨b, o, rfl, hb, hc⟩ := (unhide HR).row.nat (k := k) hlt
      have hs := Wm.svN_succ P.p f x k
      have l1 := unhide HLT k
      have l2 := unhide HFL k
      have s1 := congrArg Prod.fst hs
      have s2 := congrArg Prod.snd hs
      dsimp only at s1 s2
      have HS1 := hide s1
      have HS2 := hide s2
      generalize (Wm.svN P.p f x k).1 = u at *
      generalize (Wm.svN P.p f x k).2 = v at *
      generalize f.getD k 0 = y at *
      obtain ⟨l1a, l1b⟩ := l1
      have m1 : y * v ≤ 997 * 997 := Nat.mul_le_mul (by omega) (by omega)
      have m2 : v * x ≤ 997 * 997 := Nat.mul_le_mul (by omega) (by omega)
      have b1 : (y : Int) * (v : Int) ≤ 994009 := by rw [← Int.natCast_mul]; omega
      have b2 : (v : Int) * (x : Int) ≤ 994009 := by rw [← Int.natCast_mul]; omega
      have b3 : 0 ≤ (y : Int) * (v : Int) := by rw [← Int.natCast_mul]; omega
      have b4 : 0 ≤ (v : Int) * (x : Int) := by rw [← Int.natCast_mul]; omega
      have e1 : Hid (((u : Int) + (y : Int) * (v : Int)) % (P.p : Int) = (((Wm.svN P.p f x (k + 1)).1 : Nat) : Int)) := hide (by rw [unhide HS1, ← Int.natCast_mul, ← Int.natCast_add]; rfl)
      have e2 : Hid ((v : Int) * (x : Int) % (P.p : Int) = (((Wm.svN P.p f x (k + 1)).2 : Nat) : Int)) := hide (by rw [unhide HS2, ← Int.natCast_mul]; rfl)
      clear hs s1 s2 m1 m2
      go_wp2_with fail
      refine (unhide CM _).mono ?_
      rintro e w2 ⟨rfl, rfl⟩
      go_wp2
      go_roundw
      case rel => exact ⟨k + 1, by omega, by go_num, num_eqQ (unhide e1), num_eqQ (unhide e2), by first | exact ⟨_, rfl⟩ | exact ⟨0, rfl⟩⟩
      case measure => simp [intOf]; omega
    · obtain rfl : n = k := by omega
      have e1 : Hid (Wm.evN P.p f x = (Wm.svN P.p f x n).1) := hide (by have := unhide HEV; rw [unhide HL] at this; exact this.symm)
      go_wp2
      go_ret
      exact ⟨by rw [unhide e1]; rfl, by first | exact ⟨_, rfl⟩ | exact ⟨0, rfl⟩⟩

/-- The points of a polynomial. -/
def ptsL (P : Wm.Pr) (f : List Nat) (n : Nat) : List (Int × Int) := (List.range n).map fun (i : Nat) => ((i : Int), ((Wm.evN P.p f i : Nat) : Int))
theorem ptsL_len (P : Wm.Pr) (f : List Nat) (n : Nat) : (ptsL P f n).length = n := by simp [ptsL]
theorem ptsL_get (P : Wm.Pr) (f : List Nat) {n i : Nat} (h : i < n) : (ptsL P f n).getD i (0, 0) = ((i : Int), ((Wm.evN P.p f i : Nat) : Int)) := by
  unfold ptsL
  rw [List.getD_eq_getElem?_getD, List.getElem?_map, List.getElem?_range h]; rfl
theorem ptsL_ok (P : Wm.Pr) (f : List Nat) {n : Nat} (h12 : n ≤ 12) (hp : n ≤ P.p) : PtsOk P (ptsL P f n) := by
  refine ⟨by rw [ptsL_len]; exact h12, fun x hx => ?_, fun i j hi hj e => ?_⟩
  · obtain ⟨i, hi, rfl⟩ := List.mem_map.1 hx
    have := List.mem_range.1 hi
    have := Wm.evN_lt P.pos f i
    dsimp only; omega
  · rw [ptsL_len] at hi hj
    rw [ptsL_get P f hi, ptsL_get P f hj] at e
    dsimp only at e; omega
theorem ptsL_thru {P : Wm.Pr} {f : List Nat} (hf : Wm.IsP P.p f) {n : Nat} (hn : f.length ≤ n) : ThruL P (ptsL P f n) f := by
  refine ⟨hf, by rw [ptsL_len]; exact hn, fun i hi => ?_⟩
  rw [ptsL_len] at hi
  unfold pxN pyN
  rw [ptsL_get P f hi]
  dsimp only; simp

set_option maxRecDepth 100000 in
set_option maxHeartbeats 1000000 in
theorem seen_ok (P : Wm.Pr) (h9 : P.p ≤ 997) (A : Option Addr) (n c : Nat) (f : List Nat) (N m : Nat) (w : World) (R : Pv w A n c f) (hf : ∀ y ∈ f, y < P.p) (hn : n ≤ 100) (hN : N ≤ 100) (hm : m = min N P.p) :
    Calls Try.prog 29 #[.int .i64 P.p, .slice A n c, .int .i64 N] w fun e w' => (∃ v, e = .returned v ∧ w'.ownsRow w.heap.size 49 2 v m (prs (ptsL P f m))) ∧ Ext w w' := by
  have CV := hide (fun (W : World) (E : Ext w W) (x : Nat) (hx : x < P.p) => ValueAt_ok P h9 A n c f x W (R.keep E) hf hn hx)
  have HT := hide (fun k => (show prs (ptsL P f (k + 1)) = prs (ptsL P f k) ++ [.int .i64 (k : Int), .int .i64 ((Wm.evN P.p f k : Nat) : Int)] from by
    unfold ptsL
    rw [List.range_succ, List.map_append, ← prs_append]; rfl))
  have hmP : m ≤ P.p := by omega
  have hmN : m ≤ N := by omega
  clear R hf
  rcases Nat.lt_or_ge P.p N with hc | hc
  · obtain rfl : m = P.p := by omega
    have hcI : (P.p : Int) < (N : Int) := by omega
    clear hm
    go_enter Try.func29, Try.ntmps29
    go_wp2
    go_loopw [7, 12] (fun v i wr => ∃ k : Nat, k ≤ P.p ∧ i = .int .i64 k ∧ Hid (wr.ownsRow w.heap.size 49 2 v k (prs (ptsL P f k))) ∧ (Ext w wr ∧ True)) (fun _ i _ => P.p - (intOf i).toNat)
    case atStart => exact ⟨0, Nat.zero_le _, rfl, hide (World.ownsRow_nil _ _ _ _), (by repeat (first | exact Ext.refl w | refine Ext.alloc ?_ _ | refine Ext.drew ?_ | refine Ext.drewN ?_ _ | (refine Ext.trans ?_ (plus_ext _ _)) | (refine Ext.setCell ?_ (by have := Ext.size Ext.refl w; simp; omega) _))), trivial⟩
    case round =>
      obtain ⟨k, hk, rfl, HOW, hE⟩ := hrel
      by_cases hlt : k < P.p
      · have CV2 := hide (fun (W : World) (E : Ext w W) => unhide CV W E k (by omega))
        have ht := hide (unhide HT k)
        have hbd : (k + 1) * 16 ≤ 140737488355328 ∧ k + 1 ≤ 9223372036854775807 := by omega
        generalize Wm.evN P.p f k = y at *
        go_wp2_with fail
        refine (unhide CV2 _ (by repeat (first | exact hE.1 | refine Ext.alloc ?_ _ | refine Ext.drew ?_ | refine Ext.drewN ?_ _ | (refine Ext.trans ?_ (plus_ext _ _)) | (refine Ext.setCell ?_ (by have := Ext.size hE.1; simp; omega) _)))).mono ?_
        rintro e w2 ⟨rfl, nd, rfl⟩
        have HOW2 := hide (row_drewN (unhide HOW) nd)
        have hE2 : Ext w (wr.drewN nd) := hE.1.drewN nd
        clear HOW
        go_wp2_with (at_builtin; refine wpList_app rfl _ _ 43 (by rfl) 49 pairQ hE2 _ _ _ _ (by rfl) (unhide HOW2) 1 1 (by rfl) rfl rfl hbd ?_)
        intro v' w3 hown' hext' _
        have hown2 : Hid (w3.ownsRow w.heap.size 49 2 v' (k + 1) (prs (ptsL P f (k + 1)))) := hide (by rw [unhide ht]; exact hown')
        clear hown'
        go_wp2
        go_roundw
        case rel => exact ⟨k + 1, by omega, by go_num, hown2, hext', trivial⟩
        case measure => simp [intOf]; omega
      · obtain rfl : k = P.p := by omega
        go_wp2
        go_ret
        exact ⟨⟨_, rfl, unhide HOW⟩, hE.1⟩

  · obtain rfl : m = N := by omega
    have hcI : ¬ (P.p : Int) < (m : Int) := by omega
    clear hm
    go_enter Try.func29, Try.ntmps29
    go_wp2
    go_loopw [7, 12] (fun v i wr => ∃ k : Nat, k ≤ m ∧ i = .int .i64 k ∧ Hid (wr.ownsRow w.heap.size 49 2 v k (prs (ptsL P f k))) ∧ (Ext w wr ∧ True)) (fun _ i _ => m - (intOf i).toNat)
    case atStart => exact ⟨0, Nat.zero_le _, rfl, hide (World.ownsRow_nil _ _ _ _), (by repeat (first | exact Ext.refl w | refine Ext.alloc ?_ _ | refine Ext.drew ?_ | refine Ext.drewN ?_ _ | (refine Ext.trans ?_ (plus_ext _ _)) | (refine Ext.setCell ?_ (by have := Ext.size Ext.refl w; simp; omega) _))), trivial⟩
    case round =>
      obtain ⟨k, hk, rfl, HOW, hE⟩ := hrel
      by_cases hlt : k < m
      · have CV2 := hide (fun (W : World) (E : Ext w W) => unhide CV W E k (by omega))
        have ht := hide (unhide HT k)
        have hbd : (k + 1) * 16 ≤ 140737488355328 ∧ k + 1 ≤ 9223372036854775807 := by omega
        generalize Wm.evN P.p f k = y at *
        go_wp2_with fail
        refine (unhide CV2 _ (by repeat (first | exact hE.1 | refine Ext.alloc ?_ _ | refine Ext.drew ?_ | refine Ext.drewN ?_ _ | (refine Ext.trans ?_ (plus_ext _ _)) | (refine Ext.setCell ?_ (by have := Ext.size hE.1; simp; omega) _)))).mono ?_
        rintro e w2 ⟨rfl, nd, rfl⟩
        have HOW2 := hide (row_drewN (unhide HOW) nd)
        have hE2 : Ext w (wr.drewN nd) := hE.1.drewN nd
        clear HOW
        go_wp2_with (at_builtin; refine wpList_app rfl _ _ 43 (by rfl) 49 pairQ hE2 _ _ _ _ (by rfl) (unhide HOW2) 1 1 (by rfl) rfl rfl hbd ?_)
        intro v' w3 hown' hext' _
        have hown2 : Hid (w3.ownsRow w.heap.size 49 2 v' (k + 1) (prs (ptsL P f (k + 1)))) := hide (by rw [unhide ht]; exact hown')
        clear hown'
        go_wp2
        go_roundw
        case rel => exact ⟨k + 1, by omega, by go_num, hown2, hext', trivial⟩
        case measure => simp [intOf]; omega
      · obtain rfl : k = m := by omega
        go_wp2
        go_ret
        exact ⟨⟨_, rfl, unhide HOW⟩, hE.1⟩

end Go.Proofs.Ytkfdimofkkckeaa
