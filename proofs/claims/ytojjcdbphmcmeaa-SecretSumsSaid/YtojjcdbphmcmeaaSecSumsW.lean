/-
  The law SecretSums returns true: the walk.
-/
import Derived.Test.YtojjcdbphmcmeaaSec1
import Derived.Test.YtojjcdbphmcmeaaLaw
import Derived.Test.YtojjcdbphmcmeaaHold
import Derived.Test.YtojjcdbphmcmeaaMin
set_option linter.unusedVariables false
set_option linter.unusedSimpArgs false
namespace Go.Proofs.Ytojjcdbphmcmeaa
open Go.RowKit Go.BigFrame

/-- Shares of F, those before k with G's added. -/
def mixL (p : Nat) (F G : List Nat) (k n : Nat) : List (Int × Int) := (List.range n).map fun (i : Nat) => (((i + 1 : Nat) : Int), if i < k then (((Wm.evN p F (i + 1) + Wm.evN p G (i + 1)) % p : Nat) : Int) else ((Wm.evN p F (i + 1) : Nat) : Int))
theorem mixL_len (p : Nat) (F G : List Nat) (k n : Nat) : (mixL p F G k n).length = n := by simp [mixL]
theorem mixL_get (p : Nat) (F G : List Nat) (k : Nat) {n i : Nat} (h : i < n) : (mixL p F G k n).getD i (0, 0) = (((i + 1 : Nat) : Int), if i < k then (((Wm.evN p F (i + 1) + Wm.evN p G (i + 1)) % p : Nat) : Int) else ((Wm.evN p F (i + 1) : Nat) : Int)) := by
  unfold mixL
  rw [List.getD_eq_getElem?_getD, List.getElem?_map, List.getElem?_range h]; rfl
theorem mixL_start (p : Nat) (F G : List Nat) (n : Nat) : mixL p F G 0 n = shL p F n n := by
  apply List.ext_getElem (by simp [mixL, shL])
  intro j h1 h2
  have : j < n := by simpa [mixL] using h1
  simp [mixL, shL, this]
theorem mixL_done (P : Wm.Pr) (F G : List Nat) (n : Nat) : mixL P.p F G n n = shL P.p (Wm.addL P.p F G) n n := by
  apply List.ext_getElem (by simp [mixL, shL])
  intro j h1 h2
  have : j < n := by simpa [mixL] using h1
  simp [mixL, shL, this, Wm.evN_add]
theorem mixL_set (p : Nat) (F G : List Nat) {k n : Nat} (h : k < n) : (mixL p F G k n).set k (((k + 1 : Nat) : Int), (((Wm.evN p F (k + 1) + Wm.evN p G (k + 1)) % p : Nat) : Int)) = mixL p F G (k + 1) n := by
  apply List.ext_getElem (by simp [mixL])
  intro j h1 h2
  rw [List.getElem_set]
  simp only [mixL, List.getElem_map, List.getElem_range]
  by_cases e : k = j
  · subst e; rw [if_pos rfl, if_pos (by omega)]
  · rw [if_neg e]
    by_cases hj : j < k
    · rw [if_pos hj, if_pos (by omega)]
    · rw [if_neg hj, if_neg (by omega)]
theorem prs_set2 (l : List (Int × Int)) {k : Nat} (hk : k < l.length) (x y : Int) (hx : (l.getD k (0, 0)).1 = x) : prs (l.set k (x, y)) = (prs l).set (k * 2 + 1) (.int .i64 y) := by
  rw [prs_set]
  dsimp only
  congr 1
  have h0 := (prs_get l k hk).1
  rw [hx] at h0
  obtain ⟨h1, h2⟩ := List.getElem?_eq_some_iff.1 h0
  rw [← h2, List.set_getElem_self]

theorem ShP_pts (P : Wm.Pr) (F : List Nat) (N : Nat) (hN : N < P.p) (h12 : N ≤ 12) : PtsOk P (shL P.p F N N) := by
  have hl := shL_len P.p F N N
  refine ⟨by omega, fun x hx => ?_, fun i j hi hj e => ?_⟩
  · obtain ⟨t, ht, rfl⟩ := List.getElem_of_mem hx
    rw [hl] at ht
    have e : (shL P.p F N N)[t] = (shL P.p F N N).getD t (0, 0) := by rw [List.getD_eq_getElem?_getD, List.getElem?_eq_getElem (by omega)]; rfl
    rw [e, shL_get _ _ _ ht, if_pos ht]
    have := Wm.evN_lt P.pos F (t + 1)
    dsimp only; omega
  · rw [hl] at hi hj
    rw [shL_get _ _ _ hi, if_pos hi, shL_get _ _ _ hj, if_pos hj] at e
    dsimp only at e; omega
theorem ShP_thru (P : Wm.Pr) (F : List Nat) (N : Nat) (hF : Wm.IsP P.p F) (hl : F.length ≤ N) : ThruL P (shL P.p F N N) F := by
  refine ⟨hF, by rw [shL_len]; exact hl, fun i hi => ?_⟩
  rw [shL_len] at hi
  unfold pxN pyN
  rw [shL_get _ _ _ hi, if_pos hi]
  simp
theorem evz_at (P : Wm.Pr) {s : Nat} (hs : s < P.p) (t : List Nat) : Wm.evN P.p (Wm.trimL (s :: t)) 0 = s := by
  rw [Wm.evN_trim]
  show (Wm.evN P.p t 0 * 0 + s) % P.p = s
  rw [Nat.mul_zero, Nat.zero_add, Nat.mod_eq_of_lt hs]

set_option maxRecDepth 100000 in
set_option maxHeartbeats 2000000 in
theorem ssums_law (a s0 t0 : Int) (A1 : Option Addr) (n1 c1 : Nat) (l1 : List Int) (A2 : Option Addr) (n2 c2 : Nat) (l2 : List Int) (w : World)
    (S1 : SliceIn w A1 n1 c1 1 8 (ints l1)) (_ : ∀ x ∈ l1, -9223372036854775808 ≤ x ∧ x ≤ 9223372036854775807) (S2 : SliceIn w A2 n2 c2 1 8 (ints l2)) (_ : ∀ x ∈ l2, -9223372036854775808 ≤ x ∧ x ≤ 9223372036854775807) :
    Calls Try.prog 7 #[.int .i64 a, .int .i64 s0, .int .i64 t0, .slice A1 n1 c1, .slice A2 n2 c2] w fun e w' => e = .returned (.bool true) ∧ Ext w w' := by
  have CL := hide (deals_any w)
  have C0 := hide (fun w : World => polys_any w)
  have CF := hide (fun w : World => fieldOf_any a w)
  have HR1 := hide S1.1
  have HR2 := hide S2.1
  have hlen1 := S1.1.num
  have hlen2 := S2.1.num
  clear S1 S2
  go_enter Try.func7, Try.ntmps7
  go_wp2_with fail
  refine (unhide CL).mono ?_
  rintro e w0 ⟨rfl, Fw0⟩
  go_wp2_with fail
  refine (unhide C0 _).mono ?_
  rintro e w1 ⟨rfl, Fw1⟩
  go_wp2_with fail
  refine (unhide CF _).mono ?_
  rintro e w2 ⟨⟨P, h9, rfl⟩, k2, rfl⟩
  have hp := P.two
  have CW := hide (fun (x : Int) (w : World) => within_any x P.p w (by omega) (by omega))
  have lm : ∀ l : List Int, ∃ m : List Nat, m.length = l.length ∧ (∀ k, k < l.length → (m.getD k 0 : Int) = l.getD k 0 % (P.p : Int)) ∧ ∀ x ∈ m, x < P.p := fun l => by
    refine ⟨l.map fun x => (x % (P.p : Int)).toNat, by simp, fun k hk => ?_, fun x hx => ?_⟩
    · have := Wm.emod_bound (l.getD k 0) (show (0 : Int) < (P.p : Int) by omega)
      rw [List.getD_eq_getElem?_getD, List.getElem?_map, List.getElem?_eq_getElem hk]
      rw [List.getD_eq_getElem?_getD, List.getElem?_eq_getElem hk] at this ⊢
      simp only [Option.map_some, Option.getD_some] at this ⊢
      omega
    · obtain ⟨y, -, rfl⟩ := List.mem_map.1 hx
      have := Wm.emod_bound y (show (0 : Int) < (P.p : Int) by omega)
      omega
  obtain ⟨la, hla, hga, hba⟩ := lm l1
  obtain ⟨lb, hlb, hgb, hbb⟩ := lm l2
  rw [hlen1] at hla hga
  rw [hlen2] at hlb hgb
  have HGA := hide hga
  have HGB := hide hgb
  have HBA := hide hba
  have HBB := hide hbb
  have HSA := hide (fun (k : Nat) (hk : k < n1) => take_snoc la (0 : Nat) (k := k) (by omega))
  have HSB := hide (fun (k : Nat) (hk : k < n2) => take_snoc lb (0 : Nat) (k := k) (by omega))
  obtain ⟨M, hM⟩ : ∃ M : Nat, (M : Int) = min (min (min (n1 : Int) (n2 : Int)) 11) ((P.p : Int) - 2) := ⟨(min (min (min (n1 : Int) (n2 : Int)) 11) ((P.p : Int) - 2)).toNat, by omega⟩
  have hMn1 : M ≤ n1 := by omega
  have hMn2 : M ≤ n2 := by omega
  have hM11 : M ≤ 11 := by omega
  have hMp : M + 2 ≤ P.p := by omega
  have HMM := hide hM
  have HLA := hide (show (la.take M).length = M by rw [List.length_take]; omega)
  have HLB := hide (show (lb.take M).length = M by rw [List.length_take]; omega)
  have E1 := And.intro (show Ext w w1 from (by repeat (first | exact Ext.refl _ | assumption | refine Ext.alloc ?_ _ | refine Ext.drew ?_ | refine Ext.drewN ?_ _ | refine Ext.trans ?_ ‹Ext _ _›))) trivial
  clear Fw0 Fw1 CL C0 CF hga hgb hba hbb lm hM
  go_wp2_with (refine wpList_min4 (o := ⟨some 37, _, _, _, _, _⟩) rfl _ _ _ _ _ (by rfl) _ _ _ _ (by rfl) (by rfl) (by rfl) (by rfl) (M : Int) (by have := unhide HMM; omega) ?_)
  go_wp2
  go_loopw [13, 14, 41] (fun v u i wr => ∃ k : Nat, k ≤ M ∧ i = .int .i64 k ∧ (Hid (Hold w wr [⟨3, 1, v, k, nats .i64 (la.take k)⟩, ⟨3, 1, u, k, nats .i64 (lb.take k)⟩]) ∧ True)) (fun _ _ i _ => M - (intOf i).toNat)
  case atStart => exact ⟨0, Nat.zero_le _, rfl, hide (Hold.none_ (Hold.none_ (Hold.nil (by repeat (first | exact E1.1 | refine Ext.alloc ?_ _ | refine Ext.drew ?_ | refine Ext.drewN ?_ _ | (refine Ext.trans ?_ (plus_ext _ _)) | (refine Ext.setCell ?_ (by have := Ext.size E1.1; simp; omega) _)))) _ _) _ _), trivial⟩
  case round =>
    clear E1
    obtain ⟨k, hk, rfl, HT, -⟩ := hrel
    by_cases hlt : k < M
    · obtain ⟨b, o, rfl, hb, hcx⟩ := (unhide HR1).int (k := k) (by omega)
      obtain ⟨b2, o2, rfl, hb2, hcy⟩ := (unhide HR2).int (k := k) (by omega)
      have hs1 := unhide HSA k (by omega)
      have hs2 := unhide HSB k (by omega)
      have C1 := hide (fun w : World => unhide CW (l1.getD k 0) w)
      have C2 := hide (fun w : World => unhide CW (l2.getD k 0) w)
      rw [← unhide HGA k (by omega)] at C1
      rw [← unhide HGB k (by omega)] at C2
      generalize l1.getD k 0 = x at *
      generalize l2.getD k 0 = y at *
      have HT1 := hide (show nats .i64 (la.take (k + 1)) = nats .i64 (la.take k) ++ [.int .i64 ((la.getD k 0 : Nat) : Int)] by rw [hs1, ← nats_append]; rfl)
      have HT2 := hide (show nats .i64 (lb.take (k + 1)) = nats .i64 (lb.take k) ++ [.int .i64 ((lb.getD k 0 : Nat) : Int)] by rw [hs2, ← nats_append]; rfl)
      generalize la.getD k 0 = xm at *
      generalize lb.getD k 0 = ym at *
      have T0 := unhide HT
      have hcx1 := T0.1.keep hcx
      have hcy1 := T0.1.keep hcy
      have hkn1 : (k : Int) < (n1 : Int) := by omega
      have hkn2 : (k : Int) < (n2 : Int) := by omega
      have hk0 : (0 : Int) ≤ (k : Int) := by omega
      clear hs1 hs2 HT
      go_wp2
      go_region_held3 (fun W => W.cell? ⟨b, o + k, none⟩ = some (.int .i64 x) ∧ W.cell? ⟨b2, o2 + k, none⟩ = some (.int .i64 y)) (first | go_keep | exact ⟨(Hold.ext_ (by assumption)).keep hcx, (Hold.ext_ (by assumption)).keep hcy⟩) (first
        | (go_at_call 11; refine (unhide C1 _).mono ?_; rintro e wc ⟨rfl, rfl⟩)
        | (go_at_call 11; refine (unhide C2 _).mono ?_; rintro e wc ⟨rfl, rfl⟩)
        | (refine step_app_rows rfl (.tmp 53) (.tmp 60) 29 rfl intQ (Hold.push1 TX _ _) 1 rfl rfl [.int .i64 (ym : Int)] rfl ?hm rfl ?hb ?_; (case hm => simp); (case hb => omega); intro vy wy TY hgy)
        | (refine step_app_rows rfl (.tmp 44) (.tmp 51) 29 rfl intQ (Hold.push1 T0 _ _).drew 0 rfl rfl [.int .i64 (xm : Int)] rfl ?hm rfl ?hb ?_; (case hm => simp); (case hb => omega); intro vx wx TX hgx))
      all_goals
        have T2 : Hid (Hold w wy [⟨3, 1, vx, k + 1, nats .i64 (la.take (k + 1))⟩, ⟨3, 1, vy, k + 1, nats .i64 (lb.take (k + 1))⟩]) := hide (by rw [unhide HT1, unhide HT2]; exact TY.fst_ 2)
        clear TX TY T0 hcx1 hcy1 hgx hgy
        go_wp2
        go_roundw
        case rel => exact ⟨k + 1, by omega, by go_num, T2, trivial⟩
        case measure => simp [intOf]; omega
    · obtain rfl : M = k := by omega
      have T0 := unhide HT
      have hPx := (Made.of_own (T0.own List.mem_cons_self)).pv
      have hPy := (Made.of_own (T0.own (List.mem_cons_of_mem _ List.mem_cons_self))).pv
      dsimp only at hPx hPy
      obtain ⟨Aa, ca, rfl, Pa⟩ := hPx
      obtain ⟨Ab, cb, rfl, Pb⟩ := hPy
      have hsb := Wm.emod_bound s0 (show (0 : Int) < (P.p : Int) by omega)
      have htb := Wm.emod_bound t0 (show (0 : Int) < (P.p : Int) by omega)
      obtain ⟨s, hs⟩ : ∃ s : Nat, (s : Int) = s0 % (P.p : Int) := ⟨(s0 % (P.p : Int)).toNat, by omega⟩
      obtain ⟨t, ht⟩ : ∃ t : Nat, (t : Int) = t0 % (P.p : Int) := ⟨(t0 % (P.p : Int)).toNat, by omega⟩
      have C1 := hide (fun w : World => unhide CW s0 w)
      have C2 := hide (fun w : World => unhide CW t0 w)
      rw [← hs] at C1 hsb
      rw [← ht] at C2 htb
      have hsp : s < P.p := by omega
      have htp : t < P.p := by omega
      have HBA2 := hide (show ∀ x ∈ la.take M, x < P.p from fun x hx => unhide HBA x (List.mem_of_mem_take hx))
      have HBB2 := hide (show ∀ x ∈ lb.take M, x < P.p from fun x hx => unhide HBB x (List.mem_of_mem_take hx))
      generalize la.take M = la2 at *
      generalize lb.take M = lb2 at *
      obtain ⟨N, hN⟩ : ∃ N, N = M + 1 := ⟨_, rfl⟩
      have hN12 : N ≤ 12 := by omega
      have hNp : N < P.p := by omega
      have hNI : (M : Int) + 1 = (N : Int) := by omega
      have hN1 : 1 ≤ N := by omega
      have HNM := hide hN
      have CD1 := hide (fun (W : World) (E : Ext wr W) => Deal_ok P h9 s hsp Aa _ ca la2 N W (Pa.keep E) (unhide HBA2) (by omega) hN12 hNp)
      have CD2 := hide (fun (W : World) (E : Ext wr W) => Deal_ok P h9 t htp Ab _ cb lb2 N W (Pb.keep E) (unhide HBB2) (by omega) hN12 hNp)
      have HF := hide (show Wm.IsP P.p (Wm.trimL (s :: la2)) ∧ (Wm.trimL (s :: la2)).length ≤ N ∧ Wm.evN P.p (Wm.trimL (s :: la2)) 0 = s from
        ⟨Wm.trimL_isP (fun x hx => by rcases List.mem_cons.1 hx with rfl | h; exact hsp; exact unhide HBA2 x h), by have := Wm.trimL_len (s :: la2); have := unhide HLA; simp at *; omega, evz_at P hsp la2⟩)
      have HG := hide (show Wm.IsP P.p (Wm.trimL (t :: lb2)) ∧ (Wm.trimL (t :: lb2)).length ≤ N ∧ Wm.evN P.p (Wm.trimL (t :: lb2)) 0 = t from
        ⟨Wm.trimL_isP (fun x hx => by rcases List.mem_cons.1 hx with rfl | h; exact htp; exact unhide HBB2 x h), by have := Wm.trimL_len (t :: lb2); have := unhide HLB; simp at *; omega, evz_at P htp lb2⟩)
      generalize Wm.trimL (s :: la2) = F at *
      generalize Wm.trimL (t :: lb2) = G at *
      have E5 := And.intro T0.1 trivial
      clear T0 HT Pa Pb hN hs ht HBA2 HBB2
      go_wp2_with fail
      refine (unhide C1 _).mono ?_
      rintro e w5 ⟨rfl, rfl⟩
      go_wp2_with fail
      refine (unhide C2 _).mono ?_
      rintro e w5 ⟨rfl, rfl⟩
      go_wp2_with fail
      refine (unhide CD1 _ (by repeat (first | exact Ext.refl _ | refine Ext.alloc ?_ _ | refine Ext.drew ?_ | refine Ext.drewN ?_ _ | (refine Ext.trans ?_ (plus_ext _ _)) | (refine Ext.setCell ?_ (by have := Ext.size Ext.refl _; simp; omega) _)))).mono ?_
      rintro e w6 ⟨⟨g, rfl, MD1⟩, EN⟩
      have Fw6 := And.intro (Ext.trans (by repeat (first | exact Ext.refl w5 | refine Ext.alloc ?_ _ | refine Ext.drew ?_ | refine Ext.drewN ?_ _ | (refine Ext.trans ?_ (plus_ext _ _)) | (refine Ext.setCell ?_ (by have := Ext.size Ext.refl w5; simp; omega) _))) EN : Ext w5 w6) trivial
      clear EN CD1
      go_wp2_with fail
      refine (unhide CD2 _ (by repeat (first | exact Fw6.1 | refine Ext.alloc ?_ _ | refine Ext.drew ?_))).mono ?_
      rintro e w7 ⟨⟨g2, rfl, MD2⟩, EN⟩
      have Fw7 := And.intro (Fw6.1.trans (Ext.trans (by repeat (first | exact Ext.refl w6 | refine Ext.alloc ?_ _ | refine Ext.drew ?_ | refine Ext.drewN ?_ _ | (refine Ext.trans ?_ (plus_ext _ _)) | (refine Ext.setCell ?_ (by have := Ext.size Ext.refl w6; simp; omega) _))) EN) : Ext w5 w7) trivial
      have E67 : Ext w6 w7 := Ext.trans (by repeat (first | exact Ext.refl w6 | refine Ext.alloc ?_ _ | refine Ext.drew ?_ | refine Ext.drewN ?_ _ | (refine Ext.trans ?_ (plus_ext _ _)) | (refine Ext.setCell ?_ (by have := Ext.size Ext.refl w6; simp; omega) _))) EN
      have hg6 : w.heap.size ≤ g ∧ g < w6.heap.size := by
        have h1 := (MD1.lt g rfl)
        have h2 := Ext.size E5.1
        exact ⟨Nat.le_trans h2 h1.1, h1.2⟩
      have hg7 : w6.heap.size ≤ g2 := (MD2.lt g2 rfl).1
      have HM1 := hide ((MD1.mono (base' := w.heap.size) (Ext.size E5.1)).keep E67)
      have HM2 : Hid (Row w7 (some ⟨g2, 0, none⟩) N 2 (prs (shL P.p G N N))) := hide (by
        have ho := MD2.open_
        obtain ⟨A', c', e', R', -⟩ := ho
        injection e' with e1 e2 e3
        subst e1
        exact R')
      rw [← mixL_start P.p F G N] at HM1
      have E7 := And.intro (E5.1.trans Fw7.1) trivial
      clear MD1 MD2 EN CD2 E67 Fw6 Fw7 E5
      go_wp2_with (go_at_call 16; refine (good_made' [0, 0] _ _ _ _ _ rfl rfl (by decide) (by simp)).mono ?_; rintro e wg ⟨rfl, rfl⟩)
      go_loopw [101] (fun i wz => ∃ k : Nat, k ≤ N ∧ i = .int .i64 k ∧ Hid (Made wz w.heap.size 43 2 (.slice (some ⟨g, 0, none⟩) N N) N (prs (mixL P.p F G k N))) ∧ Hid (Row wz (some ⟨g2, 0, none⟩) N 2 (prs (shL P.p G N N))) ∧ (Ext w wz ∧ True)) (fun i _ => N - (intOf i).toNat)
      case atStart => exact ⟨0, Nat.zero_le _, rfl, hide ((unhide HM1).keep (by repeat (first | exact Ext.refl w7 | refine Ext.alloc ?_ _ | refine Ext.drew ?_ | refine Ext.drewN ?_ _ | (refine Ext.trans ?_ (plus_ext _ _)) | (refine Ext.setCell ?_ (by have := Ext.size Ext.refl w7; simp; omega) _)))), hide ((unhide HM2).keep (by repeat (first | exact Ext.refl w7 | refine Ext.alloc ?_ _ | refine Ext.drew ?_ | refine Ext.drewN ?_ _ | (refine Ext.trans ?_ (plus_ext _ _)) | (refine Ext.setCell ?_ (by have := Ext.size Ext.refl w7; simp; omega) _)))), (by repeat (first | exact E7.1 | refine Ext.alloc ?_ _ | refine Ext.drew ?_ | refine Ext.drewN ?_ _ | (refine Ext.trans ?_ (plus_ext _ _)) | (refine Ext.setCell ?_ (by have := Ext.size E7.1; simp; omega) _))), trivial⟩
      case round =>
        clear HM1 HM2 E7
        obtain ⟨k, hk, rfl, HM1, HM2, hE⟩ := hrel
        by_cases hlt : k < N
        · have ho := (unhide HM1).open_
          obtain ⟨A', c', e', R', -⟩ := ho
          injection e' with e1 e2 e3
          subst e1; subst e3
          clear e2
          obtain ⟨b', o', e4, hb', q1, q2⟩ := R'.pair (k := k) hlt
          injection e4 with e4
          injection e4 with e5 e6
          subst e5; subst e6
          obtain ⟨b', o', e4, hb', -, q4⟩ := (unhide HM2).pair (k := k) hlt
          injection e4 with e4
          injection e4 with e5 e6
          subst e5; subst e6
          rw [Nat.zero_add] at q1 q2 q4
          rw [mixL_get _ _ _ _ hlt, if_neg (by omega)] at q1 q2
          rw [shL_get _ _ _ hlt, if_pos hlt] at q4
          dsimp only at q1 q2 q4
          have f1 := (unhide HM1).frozen (k * 2 + 1)
          have HSET := hide (mixL_set P.p F G hlt)
          have hX := Wm.evN_lt (show 0 < P.p by omega) F (k + 1)
          have hY := Wm.evN_lt (show 0 < P.p by omega) G (k + 1)
          have HX1 : Hid (((mixL P.p F G k N).getD k (0, 0)).1 = ((k + 1 : Nat) : Int)) := hide (by rw [mixL_get _ _ _ _ hlt])
          generalize Wm.evN P.p F (k + 1) = X at *
          generalize Wm.evN P.p G (k + 1) = Y at *
          have HM3 := hide (show Made (wr.setCell ⟨g, k * 2 + 1, none⟩ (.int .i64 (((X + Y) % P.p : Nat) : Int))) w.heap.size 43 2 (.slice (some ⟨g, 0, none⟩) N N) N (prs (mixL P.p F G (k + 1) N)) from by
            have h1 := (unhide HM1).set (j := k * 2 + 1) (by omega) (.int .i64 (((X + Y) % P.p : Nat) : Int))
            rw [← prs_set2 _ (by rw [mixL_len]; exact hlt) _ _ (unhide HX1), unhide HSET] at h1
            exact h1)
          have HM4 := hide (show Row (wr.setCell ⟨g, k * 2 + 1, none⟩ (.int .i64 (((X + Y) % P.p : Nat) : Int))) (some ⟨g2, 0, none⟩) N 2 (prs (shL P.p G N N)) from by
            obtain ⟨r1, r2⟩ := unhide HM2
            refine ⟨r1, fun h0 => ?_⟩
            obtain ⟨b, o, e, h3, h4⟩ := r2 h0
            injection e with e
            injection e with e1 e2
            subst e1; subst e2
            refine ⟨_, _, rfl, by simpa using h3, fun j hj => ?_⟩
            rw [World.cell?_setCell_other _ _ _ _ (by simp only [ne_eq, Addr.mk.injEq, not_and]; omega)]
            exact h4 j hj)
          have E8 := And.intro (hE.1.setCell (p := ⟨g, k * 2 + 1, none⟩) hg6.1 (.int .i64 (((X + Y) % P.p : Nat) : Int))) trivial
          obtain ⟨Z, hZ⟩ : ∃ Z, Z = (X + Y) % P.p := ⟨_, rfl⟩
          rw [← hZ] at HM3 HM4 E8
          have wXY : IntKind.i64.wrap ((X : Int) + (Y : Int)) = (X : Int) + (Y : Int) := IntWalk.i64_in _ (by omega)
          have tXY : ((X : Int) + (Y : Int)).tmod (P.p : Int) = (Z : Int) := by rw [Int.tmod_eq_emod_of_nonneg (by omega), hZ]; push_cast; rfl
          have p0 : ((P.p : Int) == 0) = false := by rw [beq_eq_false_iff_ne]; omega
          have p0' : ¬ (P.p : Int) = 0 := by omega
          have p0n : ¬ P.p = 0 := by omega
          clear R' HM1 HM2 HSET HX1 hZ
          go_wp2
          go_region_law (fail)
          all_goals
            go_wp2
            go_roundw
            case rel => exact ⟨k + 1, by omega, by go_num, hide ((unhide HM3).keep ((Ext.refl _).drew)), hide ((unhide HM4).keep ((Ext.refl _).drew)), E8.1.drew, trivial⟩
            case measure => simp [intOf]; omega
        · obtain rfl : N = k := by omega
          have ho := (unhide HM1).open_
          obtain ⟨A', c', e', R', -⟩ := ho
          injection e' with e1 e2 e3
          subst e1; subst e3
          rw [mixL_done] at R'
          have hSH := ShP_pts P (Wm.addL P.p F G) N hNp hN12
          have hTH := ShP_thru P (Wm.addL P.p F G) N (Wm.addL_isP (show 0 < P.p by omega) F G) (by
            have h1 := Wm.addL_len P.p F G
            have h2 := (unhide HF).2.1
            have h3 := (unhide HG).2.1
            omega)
          have CJ := hide (fun (W : World) (E : Ext wr W) => Join_ok P h9 (some ⟨g, 0, none⟩) N N _ W (R'.keep E) (by omega) (by omega) hSH hN1 (fun i hi => by rw [shL_get _ _ _ hi, if_pos hi]; dsimp only; omega) _ hTH)
          have HEV := hide (show Wm.evN P.p (Wm.addL P.p F G) 0 = (s + t) % P.p by rw [Wm.evN_add, (unhide HF).2.2, (unhide HG).2.2])
          rw [unhide HEV] at CJ
          obtain ⟨Z, hZ⟩ : ∃ Z, Z = (s + t) % P.p := ⟨_, rfl⟩
          rw [← hZ] at CJ
          have wXY : IntKind.i64.wrap ((s : Int) + (t : Int)) = (s : Int) + (t : Int) := IntWalk.i64_in _ (by omega)
          have tXY : ((s : Int) + (t : Int)).tmod (P.p : Int) = (Z : Int) := by rw [Int.tmod_eq_emod_of_nonneg (by omega), hZ]; push_cast; rfl
          have p0 : ((P.p : Int) == 0) = false := by rw [beq_eq_false_iff_ne]; omega
          have p0' : ¬ (P.p : Int) = 0 := by omega
          have p0n : ¬ P.p = 0 := by omega
          clear R' HM1 HM2 hSH hTH HEV hZ
          go_wp2_with fail
          refine (unhide CJ _ (by repeat (first | exact Ext.refl _ | refine Ext.alloc ?_ _ | refine Ext.drew ?_ | refine Ext.drewN ?_ _ | (refine Ext.trans ?_ (plus_ext _ _)) | (refine Ext.setCell ?_ (by have := Ext.size Ext.refl _; simp; omega) _)))).mono ?_
          rintro e w8 ⟨rfl, EN⟩
          have E8 := And.intro (hE.1.trans (Ext.trans (by repeat (first | exact Ext.refl _ | refine Ext.alloc ?_ _ | refine Ext.drew ?_ | refine Ext.drewN ?_ _ | (refine Ext.trans ?_ (plus_ext _ _)) | (refine Ext.setCell ?_ (by have := Ext.size Ext.refl _; simp; omega) _))) EN)) trivial
          clear EN
          go_wp2
          go_ret
          exact ⟨rfl, (by repeat (first | exact E8.1 | refine Ext.alloc ?_ _ | refine Ext.drew ?_ | refine Ext.drewN ?_ _ | (refine Ext.trans ?_ (plus_ext _ _)) | (refine Ext.setCell ?_ (by have := Ext.size E8.1; simp; omega) _)))⟩
end Go.Proofs.Ytojjcdbphmcmeaa
