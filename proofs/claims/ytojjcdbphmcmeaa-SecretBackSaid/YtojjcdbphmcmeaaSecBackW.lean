/-
  The law SecretBack returns true: the walk.
-/
import Derived.Test.YtojjcdbphmcmeaaSec1
import Derived.Test.YtojjcdbphmcmeaaLaw
set_option linter.unusedVariables false
set_option linter.unusedSimpArgs false
namespace Go.Proofs.Ytojjcdbphmcmeaa
open Go.RowKit Go.BigFrame

/-- Shares, in some order. -/
structure ShOk (P : Wm.Pr) (F : List Nat) (N : Nat) (L : List (Int × Int)) : Prop where
  len : L.length = N
  val : ∀ t, t < N → ∃ x : Nat, 1 ≤ x ∧ x ≤ N ∧ L.getD t (0, 0) = ((x : Int), ((Wm.evN P.p F x : Nat) : Int))
  dst : ∀ s t, s < N → t < N → (L.getD s (0, 0)).1 = (L.getD t (0, 0)).1 → s = t
theorem ShOk.start (P : Wm.Pr) (F : List Nat) (N : Nat) : ShOk P F N (shL P.p F N N) := by
  refine ⟨shL_len .., fun t ht => ⟨t + 1, by omega, by omega, by rw [shL_get _ _ _ ht, if_pos ht]⟩, fun s t hs ht e => ?_⟩
  rw [shL_get _ _ _ hs, if_pos hs, shL_get _ _ _ ht, if_pos ht] at e
  dsimp only at e; omega
def swapAt (i k t : Nat) : Nat := if t = k then i else if t = i then k else t
theorem swap_get {α : Type} (m : List α) (d : α) {i k : Nat} (hi : i < m.length) (hk : k < m.length) (t : Nat) (ht : t < m.length) : ((m.set i (m.getD k d)).set k (m.getD i d)).getD t d = m.getD (swapAt i k t) d := by
  unfold swapAt
  simp only [List.getD_eq_getElem?_getD, List.getElem?_set]
  by_cases h1 : t = k
  · subst h1; simp [ht]
  · rw [if_neg (fun e => h1 e.symm), if_neg h1]
    by_cases h2 : t = i
    · subst h2; simp [ht]
    · rw [if_neg (fun e => h2 e.symm), if_neg h2]
theorem ShOk.swap {P : Wm.Pr} {F : List Nat} {N : Nat} {L : List (Int × Int)} (h : ShOk P F N L) {i k : Nat} (hi : i < N) (hk : k < N) : ShOk P F N ((L.set i (L.getD k (0, 0))).set k (L.getD i (0, 0))) := by
  have hl := h.len
  have hg := fun t (ht : t < N) => swap_get L (0, 0) (i := i) (k := k) (by omega) (by omega) t (by omega)
  have hs : ∀ t, t < N → swapAt i k t < N := fun t ht => by 
    unfold swapAt
    by_cases h1 : t = k
    · rw [if_pos h1]; exact hi
    · rw [if_neg h1]
      by_cases h2 : t = i
      · rw [if_pos h2]; exact hk
      · rw [if_neg h2]; exact ht
  refine ⟨by simp [hl], fun t ht => by rw [hg t ht]; exact h.val _ (hs t ht), fun s t hs' ht e => ?_⟩
  rw [hg s hs', hg t ht] at e
  have := h.dst _ _ (hs s hs') (hs t ht) e
  unfold swapAt at this
  split at this <;> split at this <;> (try split at this) <;> (try split at this) <;> omega
theorem take_get {α : Type} (l : List α) (d : α) {m t : Nat} (h : t < m) : (l.take m).getD t d = l.getD t d := by
  rw [List.getD_eq_getElem?_getD, List.getElem?_take_of_lt h, ← List.getD_eq_getElem?_getD]
theorem ShOk.pts {P : Wm.Pr} {F : List Nat} {N : Nat} {L : List (Int × Int)} (h : ShOk P F N L) (hN : N < P.p) (h12 : N ≤ 12) {m : Nat} (hm : m ≤ N) : PtsOk P (L.take m) := by
  have hl : (L.take m).length = m := by rw [List.length_take, h.len]; omega
  refine ⟨by omega, fun x hx => ?_, fun i j hi hj e => ?_⟩
  · obtain ⟨t, ht, rfl⟩ := List.getElem_of_mem hx
    rw [hl] at ht
    obtain ⟨y, h1, h2, h3⟩ := h.val t (by omega)
    have e : (L.take m)[t] = L.getD t (0, 0) := by
      rw [← take_get L (0, 0) ht, List.getD_eq_getElem?_getD, List.getElem?_eq_getElem (by omega)]; rfl
    rw [e, h3]
    have := Wm.evN_lt P.pos F y
    dsimp only; omega
  · rw [hl] at hi hj
    rw [take_get L _ hi, take_get L _ hj] at e
    exact h.dst i j (by omega) (by omega) e
theorem ShOk.thru {P : Wm.Pr} {F : List Nat} {N : Nat} {L : List (Int × Int)} (h : ShOk P F N L) (hF : Wm.IsP P.p F) {m : Nat} (hm : m ≤ N) (hl : F.length ≤ m) : ThruL P (L.take m) F := by
  have hl2 : (L.take m).length = m := by rw [List.length_take, h.len]; omega
  refine ⟨hF, by omega, fun i hi => ?_⟩
  rw [hl2] at hi
  unfold pxN pyN
  rw [take_get L _ hi]
  obtain ⟨y, h1, h2, h3⟩ := h.val i (by omega)
  rw [h3]; simp
theorem ShOk.pos {P : Wm.Pr} {F : List Nat} {N : Nat} {L : List (Int × Int)} (h : ShOk P F N L) {m : Nat} (hm : m ≤ N) : ∀ i, i < m → ((L.take m).getD i (0, 0)).1 ≠ 0 := fun i hi => by
  rw [take_get L _ hi]
  obtain ⟨y, h1, h2, h3⟩ := h.val i (by omega)
  rw [h3]; dsimp only; omega
theorem ev_zero_at (P : Wm.Pr) {s : Nat} (hs : s < P.p) (t : List Nat) : Wm.evN P.p (Wm.trimL (s :: t)) 0 = s := by
  rw [Wm.evN_trim]
  show (Wm.evN P.p t 0 * 0 + s) % P.p = s
  rw [Nat.mul_zero, Nat.zero_add, Nat.mod_eq_of_lt hs]

set_option maxRecDepth 100000 in
set_option maxHeartbeats 1000000 in
theorem sback_law (a s0 : Int) (A1 : Option Addr) (n1 c1 : Nat) (l1 : List Int) (A2 : Option Addr) (n2 c2 : Nat) (l2 : List Int) (w : World)
    (S1 : SliceIn w A1 n1 c1 1 8 (ints l1)) (_ : ∀ x ∈ l1, -9223372036854775808 ≤ x ∧ x ≤ 9223372036854775807) (S2 : SliceIn w A2 n2 c2 1 8 (ints l2)) (_ : ∀ x ∈ l2, -9223372036854775808 ≤ x ∧ x ≤ 9223372036854775807) :
    Calls Try.prog 5 #[.int .i64 a, .int .i64 s0, .slice A1 n1 c1, .slice A2 n2 c2] w fun e w' => e = .returned (.bool true) ∧ Ext w w' := by
  have CL := hide (deals_any w)
  have C0 := hide (fun w : World => polys_any w)
  have CF := hide (fun w : World => fieldOf_any a w)
  have HR1 := hide S1.1
  have HR2 := hide S2.1
  have hlen1 := S1.1.num
  have hnc1 := S1.2.1
  have hc1 := S1.2.2.2.1
  have hn2 : n2 ≤ 9223372036854775807 := by have := S2.2.2.2.1; have := S2.2.1; omega
  clear S1 S2
  rcases Nat.lt_or_ge 11 n1 with hm | hm
  · have hmI : (11 : Int) < (n1 : Int) := by omega
    have hM11 : 11 ≤ 11 := by omega
    have hMn : 11 ≤ n1 := by omega
    go_enter Try.func5, Try.ntmps5
    go_wp2_with fail
    refine (unhide CL).mono ?_
    rintro e w0 ⟨rfl, Fw0⟩
    go_wp2_with fail
    refine (unhide C0 _).mono ?_
    rintro e w1 ⟨rfl, Fw1⟩
    go_wp2_with fail
    refine (unhide CF _).mono ?_
    rintro e w2 ⟨⟨P, h9, rfl⟩, k2, rfl⟩
    have hp := P.two
    have CW := hide (fun (x : Int) (w : World) => within_any x P.p w (by omega) (by omega))
    obtain ⟨lm, hlm⟩ : ∃ lm : List Nat, lm = l1.map fun x => (x % (P.p : Int)).toNat := ⟨_, rfl⟩
    have hlml : lm.length = n1 := by rw [hlm, List.length_map, hlen1]
    have HLG := hide (show ∀ k, k < n1 → lm.getD k 0 = (l1.getD k 0 % (P.p : Int)).toNat from fun k hk => by
      rw [hlm, List.getD_eq_getElem?_getD, List.getD_eq_getElem?_getD, List.getElem?_map, List.getElem?_eq_getElem (by omega)]; rfl)
    have HLM := hide (show ∀ x ∈ lm, x < P.p from fun x hx => by
      rw [hlm] at hx
      obtain ⟨y, -, rfl⟩ := List.mem_map.1 hx
      have := Wm.emod_bound y (show (0 : Int) < (P.p : Int) by omega)
      omega)
    have hsn := hide (fun (k : Nat) (hk : k < n1) => take_snoc lm (0 : Nat) (k := k) (by omega))
    have E1 := And.intro (show Ext w w1 from (by repeat (first | exact Ext.refl _ | assumption | refine Ext.alloc ?_ _ | refine Ext.drew ?_ | refine Ext.drewN ?_ _ | refine Ext.trans ?_ ‹Ext _ _›))) trivial
    clear hlm Fw0 Fw1 CL C0 CF
    go_wp2
    go_loopw [10, 33] (fun v i wr => ∃ k : Nat, k ≤ 11 ∧ i = .int .i64 k ∧ Hid (wr.ownsRow w.heap.size 3 1 v k (nats .i64 (lm.take k))) ∧ (Ext w wr ∧ True)) (fun _ i _ => 11 - (intOf i).toNat)
    case atStart => exact ⟨0, Nat.zero_le _, rfl, hide (World.ownsRow_nil _ _ _ _), (by repeat (first | exact E1.1 | refine Ext.alloc ?_ _ | refine Ext.drew ?_ | refine Ext.drewN ?_ _ | (refine Ext.trans ?_ (plus_ext _ _)) | (refine Ext.setCell ?_ (by have := Ext.size E1.1; simp; omega) _))), trivial⟩
    case round =>
      clear E1
      obtain ⟨k, hk, rfl, HOW, hE⟩ := hrel
      by_cases hlt : k < 11
      · obtain ⟨b, o, rfl, hb, hcell⟩ := ((unhide HR1).keep hE.1).int (k := k) (by omega)
        have hs := unhide hsn k (by omega)
        have hxb := Wm.emod_bound (l1.getD k 0) (show (0 : Int) < (P.p : Int) by omega)
        obtain ⟨y, hy⟩ : ∃ y : Nat, (y : Int) = l1.getD k 0 % (P.p : Int) := ⟨(l1.getD k 0 % (P.p : Int)).toNat, by omega⟩
        have HT := hide (show nats .i64 (lm.take (k + 1)) = nats .i64 (lm.take k) ++ [.int .i64 (y : Int)] by
          rw [hs, ← nats_append]
          congr 1
          rw [unhide HLG k (by omega), ← hy]
          rfl)
        have hbd : (k + 1) * 8 ≤ 140737488355328 ∧ k + 1 ≤ 9223372036854775807 := by omega
        have C := hide (fun w : World => unhide CW (l1.getD k 0) w)
        rw [← hy] at C
        generalize l1.getD k 0 = x at *
        clear hs hxb hy
        go_wp2_with fail
        refine (unhide C _).mono ?_
        rintro e w3 ⟨rfl, rfl⟩
        have hext := hE.1
        go_wp2_with (at_builtin; refine wpList_app rfl _ _ 29 (by rfl) 3 intQ hext _ _ _ _ (by rfl) (unhide HOW) 1 1 (by rfl) rfl rfl hbd ?_)
        intro v' w4 hown' hext' _
        have hown2 : Hid (w4.ownsRow w.heap.size 3 1 v' (k + 1) (nats .i64 (lm.take (k + 1)))) := hide (by rw [unhide HT]; exact hown')
        clear hown'
        go_wp2
        go_roundw
        case rel => exact ⟨k + 1, by omega, by go_num, hown2, hext', trivial⟩
        case measure => simp [intOf]; omega
      · obtain rfl : 11 = k := by omega
        have hM := (Made.of_own (unhide HOW)).pv
        obtain ⟨At, ct, rfl, Pt⟩ := hM
        have hsb := Wm.emod_bound s0 (show (0 : Int) < (P.p : Int) by omega)
        obtain ⟨s, hs⟩ : ∃ s : Nat, (s : Int) = s0 % (P.p : Int) := ⟨(s0 % (P.p : Int)).toNat, by omega⟩
        have C := hide (fun w : World => unhide CW s0 w)
        rw [← hs] at C hsb
        have hsp : s < P.p := by omega
        obtain ⟨T, hT⟩ : ∃ T, T = lm.take 11 := ⟨_, rfl⟩
        rw [← hT] at Pt
        have HTl := hide (show T.length = 11 by rw [hT, List.length_take]; omega)
        have HTT := hide (show ∀ x ∈ T, x < P.p from fun x hx => unhide HLM x (List.mem_of_mem_take (by rw [← hT]; exact hx)))
        obtain ⟨N, hN⟩ : ∃ N, N = min (P.p - 1) 12 := ⟨_, rfl⟩
        have hN12 : N ≤ 12 := by omega
        have hNp : N < P.p := by omega
        have hN1 : 1 ≤ N := by omega
        have CD := hide (fun (W : World) (E : Ext wr W) => Deal_ok P h9 s hsp At _ ct T N W (Pt.keep E) (unhide HTT) (by omega) hN12 hNp)
        have HF := hide (show Wm.IsP P.p (Wm.trimL (s :: T)) ∧ (Wm.trimL (s :: T)).length ≤ 11 + 1 ∧ Wm.evN P.p (Wm.trimL (s :: T)) 0 = s from
          ⟨Wm.trimL_isP (fun x hx => by rcases List.mem_cons.1 hx with rfl | h; exact hsp; exact unhide HTT x h), by have := Wm.trimL_len (s :: T); have := unhide HTl; simp at *; omega, ev_zero_at P hsp T⟩)
        generalize Wm.trimL (s :: T) = F at *
        clear Pt HOW hT hs
        go_wp2_with fail
        refine (unhide C _).mono ?_
        rintro e w5 ⟨rfl, rfl⟩
        have hEE := And.intro hE.1 trivial
        by_cases h12 : 12 < P.p - 1
        · have h12I : (12 : Int) < (P.p : Int) - 1 := by omega
          obtain rfl : N = 12 := by omega
          clear hN
          go_wp2_with fail
          refine (unhide CD _ (by repeat (first | exact Ext.refl _ | refine Ext.alloc ?_ _ | refine Ext.drew ?_ | refine Ext.drewN ?_ _ | (refine Ext.trans ?_ (plus_ext _ _)) | (refine Ext.setCell ?_ (by have := Ext.size Ext.refl _; simp; omega) _)))).mono ?_
          rintro e w6 ⟨⟨g, rfl, MD⟩, EN⟩
          have E6 := And.intro (hEE.1.trans EN) trivial
          have hwr : w.heap.size ≤ w5.heap.size := Ext.size hEE.1
          have HMD := hide (MD.mono (base' := w.heap.size) hwr)
          have HPt := hide (show True from trivial)
          clear MD EN CD
          go_wp2
          go_loopw [61] (fun i wr => ∃ (k : Nat) (L : List (Int × Int)), k ≤ 12 ∧ i = .int .i64 k ∧ Hid (Made wr w.heap.size 43 2 (.slice (some ⟨g, 0, none⟩) 12 12) 12 (prs L)) ∧ Hid (ShOk P F 12 L) ∧ (Ext w wr ∧ True)) (fun i _ => 12 - (intOf i).toNat)
          case atStart => exact ⟨0, _, Nat.zero_le _, rfl, HMD, hide (ShOk.start P F 12), (by repeat (first | exact E6.1 | refine Ext.alloc ?_ _ | refine Ext.drew ?_ | refine Ext.drewN ?_ _ | (refine Ext.trans ?_ (plus_ext _ _)) | (refine Ext.setCell ?_ (by have := Ext.size E6.1; simp; omega) _))), trivial⟩
          case round =>
            clear HMD hEE E6 hE
            obtain ⟨i, L, hi, rfl, HM, HS, hE⟩ := hrel
            have hgw : w.heap.size ≤ g := ((unhide HM).lt g rfl).1
            by_cases hin : i < 12
            · by_cases hi2 : i < n2
              · obtain ⟨b, o, rfl, hb, hcell⟩ := ((unhide HR2).keep hE.1).int (k := i) hi2
                have hi2I : (i : Int) < (n2 : Int) := by omega
                have hxb := Wm.emod_bound (l2.getD i 0) (show (0 : Int) < (12 : Int) by omega)
                have C2 := hide (fun w : World => within_any (l2.getD i 0) 12 w (by omega) (by omega))
                obtain ⟨k, hk⟩ : ∃ k : Nat, (k : Int) = l2.getD i 0 % (12 : Int) := ⟨(l2.getD i 0 % (12 : Int)).toNat, by omega⟩
                rw [← hk] at C2 hxb
                generalize l2.getD i 0 = x at *
                clear hk
                have hkN : k < 12 := by omega
                obtain ⟨A, c', hv, R, -⟩ := (unhide HM).open_
                simp only [Value.slice.injEq] at hv
                obtain ⟨hv, -, rfl⟩ := hv
                obtain ⟨b1, o1, hA, hb1, q1, q2⟩ := R.pair (k := i) hin
                obtain ⟨b2, o2, hA', hb2, q3, q4⟩ := R.pair (k := k) hkN
                rw [← hv] at hA hA'
                injection hA with hA
                injection hA with hA1 hA2
                injection hA' with hA'
                injection hA' with hA1' hA2'
                subst hA1 hA2 hA1' hA2'
                simp only [Nat.zero_add] at q1 q2 q3 q4
                have f1 := (unhide HM).frozen (i * 2)
                have f2 := (unhide HM).frozen (i * 2 + 1)
                have f3 := (unhide HM).frozen (k * 2)
                have f4 := (unhide HM).frozen (k * 2 + 1)
                have HS2 := hide ((unhide HS).swap hin hkN)
                have hmade := ((((unhide HM).set (j := i * 2) (by omega) (.int .i64 (L.getD k (0, 0)).1)).set (j := i * 2 + 1) (by omega) (.int .i64 (L.getD k (0, 0)).2)).set (j := k * 2) (by omega) (.int .i64 (L.getD i (0, 0)).1)).set (j := k * 2 + 1) (by omega) (.int .i64 (L.getD i (0, 0)).2)
                rw [← prs_set, ← prs_set] at hmade
                have HM2 := hide hmade
                have HX := And.intro ((((hE.1.setCell (p := ⟨g, i * 2, none⟩) hgw (.int .i64 (L.getD k (0, 0)).1)).setCell (p := ⟨g, i * 2 + 1, none⟩) hgw (.int .i64 (L.getD k (0, 0)).2)).setCell (p := ⟨g, k * 2, none⟩) hgw (.int .i64 (L.getD i (0, 0)).1)).setCell (p := ⟨g, k * 2 + 1, none⟩) hgw (.int .i64 (L.getD i (0, 0)).2)) trivial
                clear R hv hmade HM HS
                generalize (L.set i (L.getD k (0, 0))).set k (L.getD i (0, 0)) = L2 at *
                by_cases hik : i = k
                · subst hik
                  generalize (L.getD i (0, 0)).1 = x1 at *
                  generalize (L.getD i (0, 0)).2 = x2 at *
                  go_wp2_with fail
                  refine (unhide C2 _).mono ?_
                  rintro e w7 ⟨rfl, rfl⟩
                  go_wp2
                  go_region_law (fail)
                  all_goals
                    go_wp2
                    go_roundw
                    case rel => exact ⟨i + 1, L2, by omega, by go_num, hide ((unhide HM2).keep ((Ext.refl _).drew)), HS2, HX.1.drew, trivial⟩
                    case measure => simp [intOf]; omega
                · generalize (L.getD i (0, 0)).1 = x1 at *
                  generalize (L.getD i (0, 0)).2 = x2 at *
                  generalize (L.getD k (0, 0)).1 = y1 at *
                  generalize (L.getD k (0, 0)).2 = y2 at *
                  go_wp2_with fail
                  refine (unhide C2 _).mono ?_
                  rintro e w7 ⟨rfl, rfl⟩
                  go_wp2
                  go_region_law (fail)
                  all_goals
                    go_wp2
                    go_roundw
                    case rel => exact ⟨i + 1, L2, by omega, by go_num, hide ((unhide HM2).keep ((Ext.refl _).drew)), HS2, HX.1.drew, trivial⟩
                    case measure => simp [intOf]; omega
              · have hi2I : ¬ (i : Int) < (n2 : Int) := by omega
                go_wp2
                go_roundw
                case rel => exact ⟨i + 1, L, by omega, by go_num, HM, HS, (by repeat (first | exact hE.1 | refine Ext.alloc ?_ _ | refine Ext.drew ?_ | refine Ext.drewN ?_ _ | (refine Ext.trans ?_ (plus_ext _ _)) | (refine Ext.setCell ?_ (by have := Ext.size hE.1; simp; omega) _))), trivial⟩
                case measure => simp [intOf]; omega
            · have hiN : i = 12 := by omega
              clear hiN
              by_cases hNM : 12 ≤ 11
              · first
                | (exfalso; omega)
                | (have hNMI : (12 : Int) ≤ (11 : Int) := by omega
                   go_wp2
                   go_ret
                   exact ⟨rfl, (by repeat (first | exact hE.1 | refine Ext.alloc ?_ _ | refine Ext.drew ?_ | refine Ext.drewN ?_ _ | (refine Ext.trans ?_ (plus_ext _ _)) | (refine Ext.setCell ?_ (by have := Ext.size hE.1; simp; omega) _)))⟩)
              · have hNMI : ¬ (12 : Int) ≤ (11 : Int) := by omega
                have hM1N : 11 + 1 ≤ 12 := by omega
                obtain ⟨A, c', hv, R, -⟩ := (unhide HM).open_
                injection hv with hv1 hv2 hv3
                subst hv1; subst hv3
                have RT := R.take (k := 11 + 1) (by omega)
                rw [prs_take] at RT
                have hpt := (unhide HS).pts hNp hN12 hM1N
                have hth := (unhide HS).thru (unhide HF).1 hM1N (unhide HF).2.1
                have hps := (unhide HS).pos hM1N
                have CJ := hide (fun (W : World) (E : Ext wr W) => Join_ok P h9 (some ⟨g, 0, none⟩) (11 + 1) 12 (L.take (11 + 1)) W (RT.keep E) (by omega) (by omega) hpt (by omega) hps F hth)
                rw [(unhide HF).2.2] at CJ
                clear R RT hpt hth hps HM HS
                go_wp2_with fail
                refine (unhide CJ _ (by repeat (first | exact Ext.refl _ | refine Ext.alloc ?_ _ | refine Ext.drew ?_ | refine Ext.drewN ?_ _ | (refine Ext.trans ?_ (plus_ext _ _)) | (refine Ext.setCell ?_ (by have := Ext.size Ext.refl _; simp; omega) _)))).mono ?_
                rintro e w8 ⟨rfl, EN⟩
                have E8 := And.intro (hE.1.trans (Ext.trans (by repeat (first | exact Ext.refl _ | refine Ext.alloc ?_ _ | refine Ext.drew ?_ | refine Ext.drewN ?_ _ | (refine Ext.trans ?_ (plus_ext _ _)) | (refine Ext.setCell ?_ (by have := Ext.size Ext.refl _; simp; omega) _))) EN)) trivial
                clear EN
                go_wp2
                go_ret
                exact ⟨rfl, (by repeat (first | exact E8.1 | refine Ext.alloc ?_ _ | refine Ext.drew ?_ | refine Ext.drewN ?_ _ | (refine Ext.trans ?_ (plus_ext _ _)) | (refine Ext.setCell ?_ (by have := Ext.size E8.1; simp; omega) _)))⟩

        · have h12I : ¬ (12 : Int) < (P.p : Int) - 1 := by omega
          have hNI : (P.p : Int) - 1 = (N : Int) := by omega
          clear hN
          go_wp2_with fail
          refine (unhide CD _ (by repeat (first | exact Ext.refl _ | refine Ext.alloc ?_ _ | refine Ext.drew ?_ | refine Ext.drewN ?_ _ | (refine Ext.trans ?_ (plus_ext _ _)) | (refine Ext.setCell ?_ (by have := Ext.size Ext.refl _; simp; omega) _)))).mono ?_
          rintro e w6 ⟨⟨g, rfl, MD⟩, EN⟩
          have E6 := And.intro (hEE.1.trans EN) trivial
          have hwr : w.heap.size ≤ w5.heap.size := Ext.size hEE.1
          have HMD := hide (MD.mono (base' := w.heap.size) hwr)
          have HPt := hide (show True from trivial)
          clear MD EN CD
          go_wp2
          go_loopw [61] (fun i wr => ∃ (k : Nat) (L : List (Int × Int)), k ≤ N ∧ i = .int .i64 k ∧ Hid (Made wr w.heap.size 43 2 (.slice (some ⟨g, 0, none⟩) N N) N (prs L)) ∧ Hid (ShOk P F N L) ∧ (Ext w wr ∧ True)) (fun i _ => N - (intOf i).toNat)
          case atStart => exact ⟨0, _, Nat.zero_le _, rfl, HMD, hide (ShOk.start P F N), (by repeat (first | exact E6.1 | refine Ext.alloc ?_ _ | refine Ext.drew ?_ | refine Ext.drewN ?_ _ | (refine Ext.trans ?_ (plus_ext _ _)) | (refine Ext.setCell ?_ (by have := Ext.size E6.1; simp; omega) _))), trivial⟩
          case round =>
            clear HMD hEE E6 hE
            obtain ⟨i, L, hi, rfl, HM, HS, hE⟩ := hrel
            have hgw : w.heap.size ≤ g := ((unhide HM).lt g rfl).1
            by_cases hin : i < N
            · by_cases hi2 : i < n2
              · obtain ⟨b, o, rfl, hb, hcell⟩ := ((unhide HR2).keep hE.1).int (k := i) hi2
                have hi2I : (i : Int) < (n2 : Int) := by omega
                have hxb := Wm.emod_bound (l2.getD i 0) (show (0 : Int) < (N : Int) by omega)
                have C2 := hide (fun w : World => within_any (l2.getD i 0) N w (by omega) (by omega))
                obtain ⟨k, hk⟩ : ∃ k : Nat, (k : Int) = l2.getD i 0 % (N : Int) := ⟨(l2.getD i 0 % (N : Int)).toNat, by omega⟩
                rw [← hk] at C2 hxb
                generalize l2.getD i 0 = x at *
                clear hk
                have hkN : k < N := by omega
                obtain ⟨A, c', hv, R, -⟩ := (unhide HM).open_
                simp only [Value.slice.injEq] at hv
                obtain ⟨hv, -, rfl⟩ := hv
                obtain ⟨b1, o1, hA, hb1, q1, q2⟩ := R.pair (k := i) hin
                obtain ⟨b2, o2, hA', hb2, q3, q4⟩ := R.pair (k := k) hkN
                rw [← hv] at hA hA'
                injection hA with hA
                injection hA with hA1 hA2
                injection hA' with hA'
                injection hA' with hA1' hA2'
                subst hA1 hA2 hA1' hA2'
                simp only [Nat.zero_add] at q1 q2 q3 q4
                have f1 := (unhide HM).frozen (i * 2)
                have f2 := (unhide HM).frozen (i * 2 + 1)
                have f3 := (unhide HM).frozen (k * 2)
                have f4 := (unhide HM).frozen (k * 2 + 1)
                have HS2 := hide ((unhide HS).swap hin hkN)
                have hmade := ((((unhide HM).set (j := i * 2) (by omega) (.int .i64 (L.getD k (0, 0)).1)).set (j := i * 2 + 1) (by omega) (.int .i64 (L.getD k (0, 0)).2)).set (j := k * 2) (by omega) (.int .i64 (L.getD i (0, 0)).1)).set (j := k * 2 + 1) (by omega) (.int .i64 (L.getD i (0, 0)).2)
                rw [← prs_set, ← prs_set] at hmade
                have HM2 := hide hmade
                have HX := And.intro ((((hE.1.setCell (p := ⟨g, i * 2, none⟩) hgw (.int .i64 (L.getD k (0, 0)).1)).setCell (p := ⟨g, i * 2 + 1, none⟩) hgw (.int .i64 (L.getD k (0, 0)).2)).setCell (p := ⟨g, k * 2, none⟩) hgw (.int .i64 (L.getD i (0, 0)).1)).setCell (p := ⟨g, k * 2 + 1, none⟩) hgw (.int .i64 (L.getD i (0, 0)).2)) trivial
                clear R hv hmade HM HS
                generalize (L.set i (L.getD k (0, 0))).set k (L.getD i (0, 0)) = L2 at *
                by_cases hik : i = k
                · subst hik
                  generalize (L.getD i (0, 0)).1 = x1 at *
                  generalize (L.getD i (0, 0)).2 = x2 at *
                  go_wp2_with fail
                  refine (unhide C2 _).mono ?_
                  rintro e w7 ⟨rfl, rfl⟩
                  go_wp2
                  go_region_law (fail)
                  all_goals
                    go_wp2
                    go_roundw
                    case rel => exact ⟨i + 1, L2, by omega, by go_num, hide ((unhide HM2).keep ((Ext.refl _).drew)), HS2, HX.1.drew, trivial⟩
                    case measure => simp [intOf]; omega
                · generalize (L.getD i (0, 0)).1 = x1 at *
                  generalize (L.getD i (0, 0)).2 = x2 at *
                  generalize (L.getD k (0, 0)).1 = y1 at *
                  generalize (L.getD k (0, 0)).2 = y2 at *
                  go_wp2_with fail
                  refine (unhide C2 _).mono ?_
                  rintro e w7 ⟨rfl, rfl⟩
                  go_wp2
                  go_region_law (fail)
                  all_goals
                    go_wp2
                    go_roundw
                    case rel => exact ⟨i + 1, L2, by omega, by go_num, hide ((unhide HM2).keep ((Ext.refl _).drew)), HS2, HX.1.drew, trivial⟩
                    case measure => simp [intOf]; omega
              · have hi2I : ¬ (i : Int) < (n2 : Int) := by omega
                go_wp2
                go_roundw
                case rel => exact ⟨i + 1, L, by omega, by go_num, HM, HS, (by repeat (first | exact hE.1 | refine Ext.alloc ?_ _ | refine Ext.drew ?_ | refine Ext.drewN ?_ _ | (refine Ext.trans ?_ (plus_ext _ _)) | (refine Ext.setCell ?_ (by have := Ext.size hE.1; simp; omega) _))), trivial⟩
                case measure => simp [intOf]; omega
            · have hiN : i = N := by omega
              clear hiN
              by_cases hNM : N ≤ 11
              · first
                | (exfalso; omega)
                | (have hNMI : (N : Int) ≤ (11 : Int) := by omega
                   go_wp2
                   go_ret
                   exact ⟨rfl, (by repeat (first | exact hE.1 | refine Ext.alloc ?_ _ | refine Ext.drew ?_ | refine Ext.drewN ?_ _ | (refine Ext.trans ?_ (plus_ext _ _)) | (refine Ext.setCell ?_ (by have := Ext.size hE.1; simp; omega) _)))⟩)
              · have hNMI : ¬ (N : Int) ≤ (11 : Int) := by omega
                have hM1N : 11 + 1 ≤ N := by omega
                obtain ⟨A, c', hv, R, -⟩ := (unhide HM).open_
                injection hv with hv1 hv2 hv3
                subst hv1; subst hv3
                have RT := R.take (k := 11 + 1) (by omega)
                rw [prs_take] at RT
                have hpt := (unhide HS).pts hNp hN12 hM1N
                have hth := (unhide HS).thru (unhide HF).1 hM1N (unhide HF).2.1
                have hps := (unhide HS).pos hM1N
                have CJ := hide (fun (W : World) (E : Ext wr W) => Join_ok P h9 (some ⟨g, 0, none⟩) (11 + 1) N (L.take (11 + 1)) W (RT.keep E) (by omega) (by omega) hpt (by omega) hps F hth)
                rw [(unhide HF).2.2] at CJ
                clear R RT hpt hth hps HM HS
                go_wp2_with fail
                refine (unhide CJ _ (by repeat (first | exact Ext.refl _ | refine Ext.alloc ?_ _ | refine Ext.drew ?_ | refine Ext.drewN ?_ _ | (refine Ext.trans ?_ (plus_ext _ _)) | (refine Ext.setCell ?_ (by have := Ext.size Ext.refl _; simp; omega) _)))).mono ?_
                rintro e w8 ⟨rfl, EN⟩
                have E8 := And.intro (hE.1.trans (Ext.trans (by repeat (first | exact Ext.refl _ | refine Ext.alloc ?_ _ | refine Ext.drew ?_ | refine Ext.drewN ?_ _ | (refine Ext.trans ?_ (plus_ext _ _)) | (refine Ext.setCell ?_ (by have := Ext.size Ext.refl _; simp; omega) _))) EN)) trivial
                clear EN
                go_wp2
                go_ret
                exact ⟨rfl, (by repeat (first | exact E8.1 | refine Ext.alloc ?_ _ | refine Ext.drew ?_ | refine Ext.drewN ?_ _ | (refine Ext.trans ?_ (plus_ext _ _)) | (refine Ext.setCell ?_ (by have := Ext.size E8.1; simp; omega) _)))⟩


  · have hmI : ¬ (11 : Int) < (n1 : Int) := by omega
    have hM11 : n1 ≤ 11 := by omega
    have hMn : n1 ≤ n1 := by omega
    go_enter Try.func5, Try.ntmps5
    go_wp2_with fail
    refine (unhide CL).mono ?_
    rintro e w0 ⟨rfl, Fw0⟩
    go_wp2_with fail
    refine (unhide C0 _).mono ?_
    rintro e w1 ⟨rfl, Fw1⟩
    go_wp2_with fail
    refine (unhide CF _).mono ?_
    rintro e w2 ⟨⟨P, h9, rfl⟩, k2, rfl⟩
    have hp := P.two
    have CW := hide (fun (x : Int) (w : World) => within_any x P.p w (by omega) (by omega))
    obtain ⟨lm, hlm⟩ : ∃ lm : List Nat, lm = l1.map fun x => (x % (P.p : Int)).toNat := ⟨_, rfl⟩
    have hlml : lm.length = n1 := by rw [hlm, List.length_map, hlen1]
    have HLG := hide (show ∀ k, k < n1 → lm.getD k 0 = (l1.getD k 0 % (P.p : Int)).toNat from fun k hk => by
      rw [hlm, List.getD_eq_getElem?_getD, List.getD_eq_getElem?_getD, List.getElem?_map, List.getElem?_eq_getElem (by omega)]; rfl)
    have HLM := hide (show ∀ x ∈ lm, x < P.p from fun x hx => by
      rw [hlm] at hx
      obtain ⟨y, -, rfl⟩ := List.mem_map.1 hx
      have := Wm.emod_bound y (show (0 : Int) < (P.p : Int) by omega)
      omega)
    have hsn := hide (fun (k : Nat) (hk : k < n1) => take_snoc lm (0 : Nat) (k := k) (by omega))
    have E1 := And.intro (show Ext w w1 from (by repeat (first | exact Ext.refl _ | assumption | refine Ext.alloc ?_ _ | refine Ext.drew ?_ | refine Ext.drewN ?_ _ | refine Ext.trans ?_ ‹Ext _ _›))) trivial
    clear hlm Fw0 Fw1 CL C0 CF
    go_wp2
    go_loopw [10, 33] (fun v i wr => ∃ k : Nat, k ≤ n1 ∧ i = .int .i64 k ∧ Hid (wr.ownsRow w.heap.size 3 1 v k (nats .i64 (lm.take k))) ∧ (Ext w wr ∧ True)) (fun _ i _ => n1 - (intOf i).toNat)
    case atStart => exact ⟨0, Nat.zero_le _, rfl, hide (World.ownsRow_nil _ _ _ _), (by repeat (first | exact E1.1 | refine Ext.alloc ?_ _ | refine Ext.drew ?_ | refine Ext.drewN ?_ _ | (refine Ext.trans ?_ (plus_ext _ _)) | (refine Ext.setCell ?_ (by have := Ext.size E1.1; simp; omega) _))), trivial⟩
    case round =>
      clear E1
      obtain ⟨k, hk, rfl, HOW, hE⟩ := hrel
      by_cases hlt : k < n1
      · obtain ⟨b, o, rfl, hb, hcell⟩ := ((unhide HR1).keep hE.1).int (k := k) (by omega)
        have hs := unhide hsn k (by omega)
        have hxb := Wm.emod_bound (l1.getD k 0) (show (0 : Int) < (P.p : Int) by omega)
        obtain ⟨y, hy⟩ : ∃ y : Nat, (y : Int) = l1.getD k 0 % (P.p : Int) := ⟨(l1.getD k 0 % (P.p : Int)).toNat, by omega⟩
        have HT := hide (show nats .i64 (lm.take (k + 1)) = nats .i64 (lm.take k) ++ [.int .i64 (y : Int)] by
          rw [hs, ← nats_append]
          congr 1
          rw [unhide HLG k (by omega), ← hy]
          rfl)
        have hbd : (k + 1) * 8 ≤ 140737488355328 ∧ k + 1 ≤ 9223372036854775807 := by omega
        have C := hide (fun w : World => unhide CW (l1.getD k 0) w)
        rw [← hy] at C
        generalize l1.getD k 0 = x at *
        clear hs hxb hy
        go_wp2_with fail
        refine (unhide C _).mono ?_
        rintro e w3 ⟨rfl, rfl⟩
        have hext := hE.1
        go_wp2_with (at_builtin; refine wpList_app rfl _ _ 29 (by rfl) 3 intQ hext _ _ _ _ (by rfl) (unhide HOW) 1 1 (by rfl) rfl rfl hbd ?_)
        intro v' w4 hown' hext' _
        have hown2 : Hid (w4.ownsRow w.heap.size 3 1 v' (k + 1) (nats .i64 (lm.take (k + 1)))) := hide (by rw [unhide HT]; exact hown')
        clear hown'
        go_wp2
        go_roundw
        case rel => exact ⟨k + 1, by omega, by go_num, hown2, hext', trivial⟩
        case measure => simp [intOf]; omega
      · obtain rfl : n1 = k := by omega
        have hM := (Made.of_own (unhide HOW)).pv
        obtain ⟨At, ct, rfl, Pt⟩ := hM
        have hsb := Wm.emod_bound s0 (show (0 : Int) < (P.p : Int) by omega)
        obtain ⟨s, hs⟩ : ∃ s : Nat, (s : Int) = s0 % (P.p : Int) := ⟨(s0 % (P.p : Int)).toNat, by omega⟩
        have C := hide (fun w : World => unhide CW s0 w)
        rw [← hs] at C hsb
        have hsp : s < P.p := by omega
        obtain ⟨T, hT⟩ : ∃ T, T = lm.take n1 := ⟨_, rfl⟩
        rw [← hT] at Pt
        have HTl := hide (show T.length = n1 by rw [hT, List.length_take]; omega)
        have HTT := hide (show ∀ x ∈ T, x < P.p from fun x hx => unhide HLM x (List.mem_of_mem_take (by rw [← hT]; exact hx)))
        obtain ⟨N, hN⟩ : ∃ N, N = min (P.p - 1) 12 := ⟨_, rfl⟩
        have hN12 : N ≤ 12 := by omega
        have hNp : N < P.p := by omega
        have hN1 : 1 ≤ N := by omega
        have CD := hide (fun (W : World) (E : Ext wr W) => Deal_ok P h9 s hsp At _ ct T N W (Pt.keep E) (unhide HTT) (by omega) hN12 hNp)
        have HF := hide (show Wm.IsP P.p (Wm.trimL (s :: T)) ∧ (Wm.trimL (s :: T)).length ≤ n1 + 1 ∧ Wm.evN P.p (Wm.trimL (s :: T)) 0 = s from
          ⟨Wm.trimL_isP (fun x hx => by rcases List.mem_cons.1 hx with rfl | h; exact hsp; exact unhide HTT x h), by have := Wm.trimL_len (s :: T); have := unhide HTl; simp at *; omega, ev_zero_at P hsp T⟩)
        generalize Wm.trimL (s :: T) = F at *
        clear Pt HOW hT hs
        go_wp2_with fail
        refine (unhide C _).mono ?_
        rintro e w5 ⟨rfl, rfl⟩
        have hEE := And.intro hE.1 trivial
        by_cases h12 : 12 < P.p - 1
        · have h12I : (12 : Int) < (P.p : Int) - 1 := by omega
          obtain rfl : N = 12 := by omega
          clear hN
          go_wp2_with fail
          refine (unhide CD _ (by repeat (first | exact Ext.refl _ | refine Ext.alloc ?_ _ | refine Ext.drew ?_ | refine Ext.drewN ?_ _ | (refine Ext.trans ?_ (plus_ext _ _)) | (refine Ext.setCell ?_ (by have := Ext.size Ext.refl _; simp; omega) _)))).mono ?_
          rintro e w6 ⟨⟨g, rfl, MD⟩, EN⟩
          have E6 := And.intro (hEE.1.trans EN) trivial
          have hwr : w.heap.size ≤ w5.heap.size := Ext.size hEE.1
          have HMD := hide (MD.mono (base' := w.heap.size) hwr)
          have HPt := hide (show True from trivial)
          clear MD EN CD
          go_wp2
          go_loopw [61] (fun i wr => ∃ (k : Nat) (L : List (Int × Int)), k ≤ 12 ∧ i = .int .i64 k ∧ Hid (Made wr w.heap.size 43 2 (.slice (some ⟨g, 0, none⟩) 12 12) 12 (prs L)) ∧ Hid (ShOk P F 12 L) ∧ (Ext w wr ∧ True)) (fun i _ => 12 - (intOf i).toNat)
          case atStart => exact ⟨0, _, Nat.zero_le _, rfl, HMD, hide (ShOk.start P F 12), (by repeat (first | exact E6.1 | refine Ext.alloc ?_ _ | refine Ext.drew ?_ | refine Ext.drewN ?_ _ | (refine Ext.trans ?_ (plus_ext _ _)) | (refine Ext.setCell ?_ (by have := Ext.size E6.1; simp; omega) _))), trivial⟩
          case round =>
            clear HMD hEE E6 hE
            obtain ⟨i, L, hi, rfl, HM, HS, hE⟩ := hrel
            have hgw : w.heap.size ≤ g := ((unhide HM).lt g rfl).1
            by_cases hin : i < 12
            · by_cases hi2 : i < n2
              · obtain ⟨b, o, rfl, hb, hcell⟩ := ((unhide HR2).keep hE.1).int (k := i) hi2
                have hi2I : (i : Int) < (n2 : Int) := by omega
                have hxb := Wm.emod_bound (l2.getD i 0) (show (0 : Int) < (12 : Int) by omega)
                have C2 := hide (fun w : World => within_any (l2.getD i 0) 12 w (by omega) (by omega))
                obtain ⟨k, hk⟩ : ∃ k : Nat, (k : Int) = l2.getD i 0 % (12 : Int) := ⟨(l2.getD i 0 % (12 : Int)).toNat, by omega⟩
                rw [← hk] at C2 hxb
                generalize l2.getD i 0 = x at *
                clear hk
                have hkN : k < 12 := by omega
                obtain ⟨A, c', hv, R, -⟩ := (unhide HM).open_
                simp only [Value.slice.injEq] at hv
                obtain ⟨hv, -, rfl⟩ := hv
                obtain ⟨b1, o1, hA, hb1, q1, q2⟩ := R.pair (k := i) hin
                obtain ⟨b2, o2, hA', hb2, q3, q4⟩ := R.pair (k := k) hkN
                rw [← hv] at hA hA'
                injection hA with hA
                injection hA with hA1 hA2
                injection hA' with hA'
                injection hA' with hA1' hA2'
                subst hA1 hA2 hA1' hA2'
                simp only [Nat.zero_add] at q1 q2 q3 q4
                have f1 := (unhide HM).frozen (i * 2)
                have f2 := (unhide HM).frozen (i * 2 + 1)
                have f3 := (unhide HM).frozen (k * 2)
                have f4 := (unhide HM).frozen (k * 2 + 1)
                have HS2 := hide ((unhide HS).swap hin hkN)
                have hmade := ((((unhide HM).set (j := i * 2) (by omega) (.int .i64 (L.getD k (0, 0)).1)).set (j := i * 2 + 1) (by omega) (.int .i64 (L.getD k (0, 0)).2)).set (j := k * 2) (by omega) (.int .i64 (L.getD i (0, 0)).1)).set (j := k * 2 + 1) (by omega) (.int .i64 (L.getD i (0, 0)).2)
                rw [← prs_set, ← prs_set] at hmade
                have HM2 := hide hmade
                have HX := And.intro ((((hE.1.setCell (p := ⟨g, i * 2, none⟩) hgw (.int .i64 (L.getD k (0, 0)).1)).setCell (p := ⟨g, i * 2 + 1, none⟩) hgw (.int .i64 (L.getD k (0, 0)).2)).setCell (p := ⟨g, k * 2, none⟩) hgw (.int .i64 (L.getD i (0, 0)).1)).setCell (p := ⟨g, k * 2 + 1, none⟩) hgw (.int .i64 (L.getD i (0, 0)).2)) trivial
                clear R hv hmade HM HS
                generalize (L.set i (L.getD k (0, 0))).set k (L.getD i (0, 0)) = L2 at *
                by_cases hik : i = k
                · subst hik
                  generalize (L.getD i (0, 0)).1 = x1 at *
                  generalize (L.getD i (0, 0)).2 = x2 at *
                  go_wp2_with fail
                  refine (unhide C2 _).mono ?_
                  rintro e w7 ⟨rfl, rfl⟩
                  go_wp2
                  go_region_law (fail)
                  all_goals
                    go_wp2
                    go_roundw
                    case rel => exact ⟨i + 1, L2, by omega, by go_num, hide ((unhide HM2).keep ((Ext.refl _).drew)), HS2, HX.1.drew, trivial⟩
                    case measure => simp [intOf]; omega
                · generalize (L.getD i (0, 0)).1 = x1 at *
                  generalize (L.getD i (0, 0)).2 = x2 at *
                  generalize (L.getD k (0, 0)).1 = y1 at *
                  generalize (L.getD k (0, 0)).2 = y2 at *
                  go_wp2_with fail
                  refine (unhide C2 _).mono ?_
                  rintro e w7 ⟨rfl, rfl⟩
                  go_wp2
                  go_region_law (fail)
                  all_goals
                    go_wp2
                    go_roundw
                    case rel => exact ⟨i + 1, L2, by omega, by go_num, hide ((unhide HM2).keep ((Ext.refl _).drew)), HS2, HX.1.drew, trivial⟩
                    case measure => simp [intOf]; omega
              · have hi2I : ¬ (i : Int) < (n2 : Int) := by omega
                go_wp2
                go_roundw
                case rel => exact ⟨i + 1, L, by omega, by go_num, HM, HS, (by repeat (first | exact hE.1 | refine Ext.alloc ?_ _ | refine Ext.drew ?_ | refine Ext.drewN ?_ _ | (refine Ext.trans ?_ (plus_ext _ _)) | (refine Ext.setCell ?_ (by have := Ext.size hE.1; simp; omega) _))), trivial⟩
                case measure => simp [intOf]; omega
            · have hiN : i = 12 := by omega
              clear hiN
              by_cases hNM : 12 ≤ n1
              · first
                | (exfalso; omega)
                | (have hNMI : (12 : Int) ≤ (n1 : Int) := by omega
                   go_wp2
                   go_ret
                   exact ⟨rfl, (by repeat (first | exact hE.1 | refine Ext.alloc ?_ _ | refine Ext.drew ?_ | refine Ext.drewN ?_ _ | (refine Ext.trans ?_ (plus_ext _ _)) | (refine Ext.setCell ?_ (by have := Ext.size hE.1; simp; omega) _)))⟩)
              · have hNMI : ¬ (12 : Int) ≤ (n1 : Int) := by omega
                have hM1N : n1 + 1 ≤ 12 := by omega
                obtain ⟨A, c', hv, R, -⟩ := (unhide HM).open_
                injection hv with hv1 hv2 hv3
                subst hv1; subst hv3
                have RT := R.take (k := n1 + 1) (by omega)
                rw [prs_take] at RT
                have hpt := (unhide HS).pts hNp hN12 hM1N
                have hth := (unhide HS).thru (unhide HF).1 hM1N (unhide HF).2.1
                have hps := (unhide HS).pos hM1N
                have CJ := hide (fun (W : World) (E : Ext wr W) => Join_ok P h9 (some ⟨g, 0, none⟩) (n1 + 1) 12 (L.take (n1 + 1)) W (RT.keep E) (by omega) (by omega) hpt (by omega) hps F hth)
                rw [(unhide HF).2.2] at CJ
                clear R RT hpt hth hps HM HS
                go_wp2_with fail
                refine (unhide CJ _ (by repeat (first | exact Ext.refl _ | refine Ext.alloc ?_ _ | refine Ext.drew ?_ | refine Ext.drewN ?_ _ | (refine Ext.trans ?_ (plus_ext _ _)) | (refine Ext.setCell ?_ (by have := Ext.size Ext.refl _; simp; omega) _)))).mono ?_
                rintro e w8 ⟨rfl, EN⟩
                have E8 := And.intro (hE.1.trans (Ext.trans (by repeat (first | exact Ext.refl _ | refine Ext.alloc ?_ _ | refine Ext.drew ?_ | refine Ext.drewN ?_ _ | (refine Ext.trans ?_ (plus_ext _ _)) | (refine Ext.setCell ?_ (by have := Ext.size Ext.refl _; simp; omega) _))) EN)) trivial
                clear EN
                go_wp2
                go_ret
                exact ⟨rfl, (by repeat (first | exact E8.1 | refine Ext.alloc ?_ _ | refine Ext.drew ?_ | refine Ext.drewN ?_ _ | (refine Ext.trans ?_ (plus_ext _ _)) | (refine Ext.setCell ?_ (by have := Ext.size E8.1; simp; omega) _)))⟩

        · have h12I : ¬ (12 : Int) < (P.p : Int) - 1 := by omega
          have hNI : (P.p : Int) - 1 = (N : Int) := by omega
          clear hN
          go_wp2_with fail
          refine (unhide CD _ (by repeat (first | exact Ext.refl _ | refine Ext.alloc ?_ _ | refine Ext.drew ?_ | refine Ext.drewN ?_ _ | (refine Ext.trans ?_ (plus_ext _ _)) | (refine Ext.setCell ?_ (by have := Ext.size Ext.refl _; simp; omega) _)))).mono ?_
          rintro e w6 ⟨⟨g, rfl, MD⟩, EN⟩
          have E6 := And.intro (hEE.1.trans EN) trivial
          have hwr : w.heap.size ≤ w5.heap.size := Ext.size hEE.1
          have HMD := hide (MD.mono (base' := w.heap.size) hwr)
          have HPt := hide (show True from trivial)
          clear MD EN CD
          go_wp2
          go_loopw [61] (fun i wr => ∃ (k : Nat) (L : List (Int × Int)), k ≤ N ∧ i = .int .i64 k ∧ Hid (Made wr w.heap.size 43 2 (.slice (some ⟨g, 0, none⟩) N N) N (prs L)) ∧ Hid (ShOk P F N L) ∧ (Ext w wr ∧ True)) (fun i _ => N - (intOf i).toNat)
          case atStart => exact ⟨0, _, Nat.zero_le _, rfl, HMD, hide (ShOk.start P F N), (by repeat (first | exact E6.1 | refine Ext.alloc ?_ _ | refine Ext.drew ?_ | refine Ext.drewN ?_ _ | (refine Ext.trans ?_ (plus_ext _ _)) | (refine Ext.setCell ?_ (by have := Ext.size E6.1; simp; omega) _))), trivial⟩
          case round =>
            clear HMD hEE E6 hE
            obtain ⟨i, L, hi, rfl, HM, HS, hE⟩ := hrel
            have hgw : w.heap.size ≤ g := ((unhide HM).lt g rfl).1
            by_cases hin : i < N
            · by_cases hi2 : i < n2
              · obtain ⟨b, o, rfl, hb, hcell⟩ := ((unhide HR2).keep hE.1).int (k := i) hi2
                have hi2I : (i : Int) < (n2 : Int) := by omega
                have hxb := Wm.emod_bound (l2.getD i 0) (show (0 : Int) < (N : Int) by omega)
                have C2 := hide (fun w : World => within_any (l2.getD i 0) N w (by omega) (by omega))
                obtain ⟨k, hk⟩ : ∃ k : Nat, (k : Int) = l2.getD i 0 % (N : Int) := ⟨(l2.getD i 0 % (N : Int)).toNat, by omega⟩
                rw [← hk] at C2 hxb
                generalize l2.getD i 0 = x at *
                clear hk
                have hkN : k < N := by omega
                obtain ⟨A, c', hv, R, -⟩ := (unhide HM).open_
                simp only [Value.slice.injEq] at hv
                obtain ⟨hv, -, rfl⟩ := hv
                obtain ⟨b1, o1, hA, hb1, q1, q2⟩ := R.pair (k := i) hin
                obtain ⟨b2, o2, hA', hb2, q3, q4⟩ := R.pair (k := k) hkN
                rw [← hv] at hA hA'
                injection hA with hA
                injection hA with hA1 hA2
                injection hA' with hA'
                injection hA' with hA1' hA2'
                subst hA1 hA2 hA1' hA2'
                simp only [Nat.zero_add] at q1 q2 q3 q4
                have f1 := (unhide HM).frozen (i * 2)
                have f2 := (unhide HM).frozen (i * 2 + 1)
                have f3 := (unhide HM).frozen (k * 2)
                have f4 := (unhide HM).frozen (k * 2 + 1)
                have HS2 := hide ((unhide HS).swap hin hkN)
                have hmade := ((((unhide HM).set (j := i * 2) (by omega) (.int .i64 (L.getD k (0, 0)).1)).set (j := i * 2 + 1) (by omega) (.int .i64 (L.getD k (0, 0)).2)).set (j := k * 2) (by omega) (.int .i64 (L.getD i (0, 0)).1)).set (j := k * 2 + 1) (by omega) (.int .i64 (L.getD i (0, 0)).2)
                rw [← prs_set, ← prs_set] at hmade
                have HM2 := hide hmade
                have HX := And.intro ((((hE.1.setCell (p := ⟨g, i * 2, none⟩) hgw (.int .i64 (L.getD k (0, 0)).1)).setCell (p := ⟨g, i * 2 + 1, none⟩) hgw (.int .i64 (L.getD k (0, 0)).2)).setCell (p := ⟨g, k * 2, none⟩) hgw (.int .i64 (L.getD i (0, 0)).1)).setCell (p := ⟨g, k * 2 + 1, none⟩) hgw (.int .i64 (L.getD i (0, 0)).2)) trivial
                clear R hv hmade HM HS
                generalize (L.set i (L.getD k (0, 0))).set k (L.getD i (0, 0)) = L2 at *
                by_cases hik : i = k
                · subst hik
                  generalize (L.getD i (0, 0)).1 = x1 at *
                  generalize (L.getD i (0, 0)).2 = x2 at *
                  go_wp2_with fail
                  refine (unhide C2 _).mono ?_
                  rintro e w7 ⟨rfl, rfl⟩
                  go_wp2
                  go_region_law (fail)
                  all_goals
                    go_wp2
                    go_roundw
                    case rel => exact ⟨i + 1, L2, by omega, by go_num, hide ((unhide HM2).keep ((Ext.refl _).drew)), HS2, HX.1.drew, trivial⟩
                    case measure => simp [intOf]; omega
                · generalize (L.getD i (0, 0)).1 = x1 at *
                  generalize (L.getD i (0, 0)).2 = x2 at *
                  generalize (L.getD k (0, 0)).1 = y1 at *
                  generalize (L.getD k (0, 0)).2 = y2 at *
                  go_wp2_with fail
                  refine (unhide C2 _).mono ?_
                  rintro e w7 ⟨rfl, rfl⟩
                  go_wp2
                  go_region_law (fail)
                  all_goals
                    go_wp2
                    go_roundw
                    case rel => exact ⟨i + 1, L2, by omega, by go_num, hide ((unhide HM2).keep ((Ext.refl _).drew)), HS2, HX.1.drew, trivial⟩
                    case measure => simp [intOf]; omega
              · have hi2I : ¬ (i : Int) < (n2 : Int) := by omega
                go_wp2
                go_roundw
                case rel => exact ⟨i + 1, L, by omega, by go_num, HM, HS, (by repeat (first | exact hE.1 | refine Ext.alloc ?_ _ | refine Ext.drew ?_ | refine Ext.drewN ?_ _ | (refine Ext.trans ?_ (plus_ext _ _)) | (refine Ext.setCell ?_ (by have := Ext.size hE.1; simp; omega) _))), trivial⟩
                case measure => simp [intOf]; omega
            · have hiN : i = N := by omega
              clear hiN
              by_cases hNM : N ≤ n1
              · first
                | (exfalso; omega)
                | (have hNMI : (N : Int) ≤ (n1 : Int) := by omega
                   go_wp2
                   go_ret
                   exact ⟨rfl, (by repeat (first | exact hE.1 | refine Ext.alloc ?_ _ | refine Ext.drew ?_ | refine Ext.drewN ?_ _ | (refine Ext.trans ?_ (plus_ext _ _)) | (refine Ext.setCell ?_ (by have := Ext.size hE.1; simp; omega) _)))⟩)
              · have hNMI : ¬ (N : Int) ≤ (n1 : Int) := by omega
                have hM1N : n1 + 1 ≤ N := by omega
                obtain ⟨A, c', hv, R, -⟩ := (unhide HM).open_
                injection hv with hv1 hv2 hv3
                subst hv1; subst hv3
                have RT := R.take (k := n1 + 1) (by omega)
                rw [prs_take] at RT
                have hpt := (unhide HS).pts hNp hN12 hM1N
                have hth := (unhide HS).thru (unhide HF).1 hM1N (unhide HF).2.1
                have hps := (unhide HS).pos hM1N
                have CJ := hide (fun (W : World) (E : Ext wr W) => Join_ok P h9 (some ⟨g, 0, none⟩) (n1 + 1) N (L.take (n1 + 1)) W (RT.keep E) (by omega) (by omega) hpt (by omega) hps F hth)
                rw [(unhide HF).2.2] at CJ
                clear R RT hpt hth hps HM HS
                go_wp2_with fail
                refine (unhide CJ _ (by repeat (first | exact Ext.refl _ | refine Ext.alloc ?_ _ | refine Ext.drew ?_ | refine Ext.drewN ?_ _ | (refine Ext.trans ?_ (plus_ext _ _)) | (refine Ext.setCell ?_ (by have := Ext.size Ext.refl _; simp; omega) _)))).mono ?_
                rintro e w8 ⟨rfl, EN⟩
                have E8 := And.intro (hE.1.trans (Ext.trans (by repeat (first | exact Ext.refl _ | refine Ext.alloc ?_ _ | refine Ext.drew ?_ | refine Ext.drewN ?_ _ | (refine Ext.trans ?_ (plus_ext _ _)) | (refine Ext.setCell ?_ (by have := Ext.size Ext.refl _; simp; omega) _))) EN)) trivial
                clear EN
                go_wp2
                go_ret
                exact ⟨rfl, (by repeat (first | exact E8.1 | refine Ext.alloc ?_ _ | refine Ext.drew ?_ | refine Ext.drewN ?_ _ | (refine Ext.trans ?_ (plus_ext _ _)) | (refine Ext.setCell ?_ (by have := Ext.size E8.1; simp; omega) _)))⟩


end Go.Proofs.Ytojjcdbphmcmeaa
