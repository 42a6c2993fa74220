/-
  The contract of divide.Divisors.
-/
import Derived.Test.YtahchidghfeofaaFactor1
import Derived.Test.YtahchidghfeofaaDivs0
import Derived.Test.YtahchidghfeofaaShelfs19
import Derived.Sort.OwnSortedInts
set_option linter.unusedVariables false
set_option linter.unusedSimpArgs false
namespace Go.Proofs.Ytahchidghfeofaa
open Go.RowKit Go.BigFrame Go.Sort

theorem intI : EInfo Try.prog 22 3 (.int .i64 0) 1 8 := EInfo.mk_ Try.underlying22 (by kernel_rfl) rfl (by omega)

set_option maxRecDepth 100000 in
set_option maxHeartbeats 1000000 in
theorem clone_int (A : Option Addr) (n c : Nat) (xs : List Value) (w : World) (R : Row w A n 1 xs) (h1 : ∀ u ∈ xs, u.oneCell' = true) (hb : n * 8 ≤ 140737488355328) (hnil : A = none → n = 0 ∧ c = 0) :
    Calls Try.prog 36 #[.slice A n c] w fun e w' => (∃ v, e = .returned v ∧ w'.ownsRow w.heap.size 3 1 v n xs) ∧ Ext w w' := by
  have hi0 : (Try.prog.info? 3).map (fun i => (i.zero, i.size, i.bytes)) = some (some (.int .i64 0), 1, 8) := by kernel_rfl
  obtain ⟨i0, hi, hz0, hz1, hz2⟩ := info_parts hi0
  cases A with
  | none =>
    obtain ⟨rfl, rfl⟩ := hnil rfl
    obtain rfl := R.empty
    have heq := fun w : World => Lib.run_eql_slice_nil w 22 3 none 0 0 0 0 Try.underlying22
    go_enter Try.func36, Try.ntmps36
    go_wp2
    go_ret
    exact ⟨⟨_, rfl, World.ownsRow_nil _ _ _ _⟩, Ext.refl _⟩
  | some ad =>
    have heq := fun w : World => Lib.run_eql_slice_nil w 22 3 (some ad) n c 0 0 Try.underlying22
    have hr := R.2
    have hl := R.1
    have hown := World.ownsRow_lit (base := w.heap.size) (e := 3) (size := 1) w #[] 0 (Nat.le_refl _) (by unfold maxLen; omega) rfl
    have HR := hide hr
    have HL := hide hl
    clear R hnil hr hl
    go_enter Try.func36, Try.ntmps36
    go_wp2_with (at_builtin; refine wpList_append_own _ rfl _ _ 22 rfl w.heap.size 3 i0 (.int .i64 0) 1 8 Try.underlying22 hi hz0 hz1 hz2 rfl (by decide) _ _ _ rfl hown ad n c xs rfl (unhide HL) ?c1 h1 (by unfold maxLen; omega) (by omega) (by simp) ?_)
    case c1 =>
      intro j u hj
      have hjn : j < n * 1 := by
        have := (List.getElem?_eq_some_iff.1 hj).1
        have := unhide HL
        omega
      obtain ⟨b, o, e, hb, hc⟩ := unhide HR (by omega)
      injection e with e
      subst e
      have hj' := (hc j hjn).trans hj
      have : (⟨b, o, none⟩ : Addr).add j = ⟨b, o + j, none⟩ := by
        unfold Addr.add
        split
        · rename_i h0; simp [h0]
        · rfl
      rw [this]
      exact (World.cell?_alloc_lt _ _ _ hb).trans hj'
    intro v' w' hown' hgrow _
    have hown2 : w'.ownsRow w.heap.size 3 1 v' n xs := by simpa using hown'
    have E1 : Ext w w' := ((Ext.refl w).alloc _).grown hgrow (fun q hq => by simp [Value.ownBlock] at hq; omega)
    clear hgrow
    go_wp2
    go_ret
    exact ⟨⟨_, rfl, hown2⟩, E1⟩


theorem nats_ints (l : List Nat) : nats .i64 l = ints (l.map fun x : Nat => (x : Int)) := by simp [nats, ints]
theorem nats_one (K : IntKind) (l : List Nat) : ∀ u ∈ nats K l, u.oneCell' = true := fun u hu => by
  obtain ⟨x, -, rfl⟩ := List.mem_map.1 hu
  rfl

/-- slices.Sort, of a row that the call made. -/
theorem sort_own (a w : World) (v : Value) (zs : List Int) (E : Ext a w) (h : w.ownsRow a.heap.size 3 1 v zs.length (ints zs)) (hn : zs.length < 4611686018427387904) :
    Calls Try.prog 41 #[v] w fun e w' => e = .returned (.tuple #[]) ∧ w'.ownsRow a.heap.size 3 1 v zs.length (ints (zs.mergeSort fun x y => decide (x ≤ y))) ∧ Ext a w' := by
  have hh := h
  obtain ⟨h1, h2⟩ := h
  rcases h2 with ⟨rfl, h2⟩ | ⟨g, cap, cur, rfl, hg, hb, hnc, hcm, hs, ht⟩
  · rw [h2] at hh ⊢
    have hz : zs = [] := List.eq_nil_of_length_eq_zero h2
    subst hz
    exact (Try.slices_Sort_int_none none 0 w).mono fun e w' ⟨he, hw⟩ => ⟨he, by rw [hw]; simpa using hh, by rw [hw]; exact E⟩
  · have hH := holds_of_blockI (ss := zs) hb (by simpa [ints] using ht)
    refine (Try.slices_Sort_int g 0 cap zs w hH (Array.getElem?_eq_some_iff.1 hb).1 hn).mono fun e w' ⟨he, n, os, hw⟩ => ⟨he, ?_, ?_⟩
    · rw [hw]
      exact ownsRow_sortedI (by simp) hg hb hnc hcm (by simpa using hs)
    · rw [hw]
      exact E.grown (grownBy_sortedI _) (fun k hk => by injection hk with hk; omega)

/-- Clip, of a row that the call made. -/
theorem clip_int (A : Option Addr) (n c : Nat) (w : World) (h1 : n ≤ c) (h2 : (c : Int) ≤ 9223372036854775807) (hA : A = none → n = 0 ∧ c = 0) :
    Calls Try.prog 42 #[.slice A n c] w fun e w' => e = .returned (.slice A n n) ∧ w' = w := by
  have h3 : (n : Int) ≤ (c : Int) := by omega
  cases A with
  | none =>
    obtain ⟨rfl, rfl⟩ := hA rfl
    go_enter Try.func42, Try.ntmps42
    go_wp2
    go_ret
    exact ⟨rfl, rfl⟩
  | some a =>
    clear hA
    go_enter Try.func42, Try.ntmps42
    go_wp2
    go_ret
    exact ⟨rfl, rfl⟩

theorem num_eq' {K : IntKind} {a b : Int} (h : a = b) : Value.int K a = Value.int K b := by rw [h]
/-- What Divisors tells. -/
def DivsPost (n : Nat) (w w' : World) (e : Ending) : Prop := ∃ (l : List (Nat × Nat)) (T : List Nat) (v : Value), Wm.IsFac n l ∧ T.Perm (Wm.dv l) ∧ T.Pairwise (· < ·) ∧ e = .returned (.tuple #[v, .int .i64 0]) ∧ Made w' w.heap.size 3 1 v T.length (nats .i64 T)

/-- A sorted list of naturals, out of a sorted list of numbers. -/
theorem sorted_nats (L : List Nat) (hd : L.Nodup) : ∃ T : List Nat, T.Perm L ∧ T.Pairwise (· < ·) ∧ (L.map fun x : Nat => (x : Int)).mergeSort (fun x y => decide (x ≤ y)) = T.map fun x : Nat => (x : Int) := by
  refine ⟨L.mergeSort fun x y => decide (x ≤ y), List.mergeSort_perm _ _, ?_, ?_⟩
  · have hs := List.pairwise_mergeSort (le := fun x y : Nat => decide (x ≤ y)) (fun a b c h1 h2 => by simp at *; omega) (fun a b => by simp; omega) L
    have hn : (L.mergeSort fun x y => decide (x ≤ y)).Nodup := (List.mergeSort_perm _ _).nodup_iff.2 hd
    exact (hs.and hn).imp fun {a b} ⟨h1, h2⟩ => by simp at h1; omega
  · rw [List.map_mergeSort]
    intro a _ b _
    simp

theorem dv_pos {l : List (Nat × Nat)} (h : Wm.Good l) {d : Nat} (hd : d ∈ Wm.dv l) : 0 < d := Nat.pos_of_dvd_of_pos ((Wm.mem_dv h d).1 hd) h.pos
theorem good_take {n : Nat} {l : List (Nat × Nat)} (h : Wm.IsFac n l) (k : Nat) : Wm.Good (l.take k) := ⟨h.1.sublist (List.take_sublist _ _), fun x hx => h.2.1 x (List.mem_of_mem_take hx)⟩
theorem take_dvd {n : Nat} {l : List (Nat × Nat)} (h : Wm.IsFac n l) (k : Nat) : Wm.prodP (l.take k) ∣ n := by
  have := Wm.prodP_append (l.take k) (l.drop k)
  rw [List.take_append_drop, h.2.2] at this
  exact ⟨_, this⟩

/-- The list while the i-th divisor is being multiplied. -/
def contI (D : List Nat) (P K i : Nat) : List Nat := D ++ (D.take i).flatMap fun d => (List.range K).map fun j => d * P ^ (j + 1)
theorem contI_zero (D : List Nat) (P K : Nat) : contI D P K 0 = D := by simp [contI]
theorem contI_succ (D : List Nat) (P K i : Nat) (h : i < D.length) : contI D P K (i + 1) = contI D P K i ++ (List.range K).map fun j => D.getD i 0 * P ^ (j + 1) := by
  unfold contI
  rw [take_snoc D 0 h, List.flatMap_append, List.append_assoc]
  simp
theorem contI_all (D : List Nat) (P K : Nat) : contI D P K D.length = Wm.dstep D P K := by
  unfold contI Wm.dstep
  rw [List.take_length]
theorem contI_length (D : List Nat) (P K i : Nat) (h : i ≤ D.length) : (contI D P K i).length = D.length + i * K := by
  unfold contI
  rw [List.length_append, Wm.length_flat, List.length_take, Nat.min_eq_left h]
theorem range_map_succ (d P t : Nat) : ((List.range (t + 1)).map fun j => d * P ^ (j + 1)) = ((List.range t).map fun j => d * P ^ (j + 1)) ++ [d * P ^ (t + 1)] := by
  rw [List.range_succ, List.map_append]; rfl

set_option maxRecDepth 100000 in
set_option maxHeartbeats 8000000 in
theorem Divisors_ok (n : Nat) (h1 : 1 ≤ n) (h6 : n ≤ 1000000) (w : World) :
    Calls Try.prog 29 #[.int .i64 n] w fun e w' => DivsPost n w w' e ∧ Ext w w' := by
  have cf := hide (fun w : World => Factor_ok n h1 h6 w)
  go_enter Try.func29, Try.ntmps29
  go_wp2_with fail
  refine (unhide cf _).mono ?_
  rintro e w1 ⟨⟨l, v, hfac, rfl, hown⟩, E1⟩
  have hlb := (hown.lt)
  obtain ⟨A, c, rfl, R, -, -, hAb⟩ := row_of_own hown
  have HR := hide R
  have HFAC := hide hfac
  have hln : l.length ≤ 1000000 := by
    have := Wm.prodP_pos hfac.2.1
    rw [hfac.2.2] at this
    have h5 : l.length < 2 ^ l.length := Nat.lt_two_pow_self
    omega
  generalize hL : l.length = L at *
  have HL := hide hL
  have HAB := hide (fun b o h => (hAb b o h).2)
  clear hown R cf hfac hL hlb hAb
  go_wp2
  go_loopw [6, 22] (fun v i wr => ∃ k : Nat, k ≤ L ∧ i = .int .i64 k ∧ wr.ownsRow w1.heap.size 3 1 v (Wm.dv (l.take k)).length (nats .i64 (Wm.dv (l.take k))) ∧ Ext w1 wr) (fun _ i _ => L - (intOf i).toNat)
  case atStart => exact ⟨0, by omega, rfl, World.ownsRow_lit w1 _ 1 (Nat.le_refl _) (by unfold maxLen; omega) rfl, (Ext.refl _).alloc _⟩
  case round =>
    obtain ⟨k, hk, rfl, hown, hext⟩ := hrel
    by_cases hlt : k < L
    · obtain ⟨b, o, rfl, hb, c1, c2⟩ := ((unhide HR).keep hext).pair hlt
      have hkl : k < l.length := by rw [unhide HL]; exact hlt
      rw [castP_get' l k hkl] at c1 c2
      have hmem := getD_mem l (0, 0) hkl
      have hpk := (unhide HFAC).2.1 _ hmem
      have htk := take_snoc l (0, 0) hkl
      have hgood := good_take (unhide HFAC) k
      have hdvd := Nat.dvd_trans (Nat.dvd_refl _) (take_dvd (unhide HFAC) (k + 1))
      have hcnt := Wm.cntD_le (good_take (unhide HFAC) (k + 1))
      have hle1 : Wm.prodP (l.take (k + 1)) ≤ n := Nat.le_of_dvd (by omega) hdvd
      obtain ⟨P, hP⟩ : ∃ P, P = (l.getD k (0, 0)).1 := ⟨_, rfl⟩
      obtain ⟨K, hK⟩ : ∃ K, K = (l.getD k (0, 0)).2 := ⟨_, rfl⟩
      rw [show l.getD k (0, 0) = (P, K) by rw [hP, hK]] at htk hpk
      have hnext : Wm.dv (l.take (k + 1)) = Wm.dstep (Wm.dv (l.take k)) P K := by rw [htk, Wm.dv_snoc]
      have hlen : (Wm.dv (l.take (k + 1))).length ≤ 1000000 := by rw [Wm.length_dv]; omega
      rw [htk, Wm.prodP_snoc] at hdvd
      have hpos : ∀ d ∈ Wm.dv (l.take k), 1 ≤ d ∧ ∀ t, t ≤ K → d * P ^ t ≤ 1000000 := fun d hd => ⟨dv_pos hgood hd, fun t ht => by
        have h2 : d * P ^ t ∣ n := Nat.dvd_trans (Nat.mul_dvd_mul ((Wm.mem_dv hgood d).1 hd) (Nat.pow_dvd_pow P ht)) hdvd
        have := Nat.le_of_dvd (by omega) h2
        omega⟩
      have hD1 : 1 ∈ Wm.dv (l.take k) := (Wm.mem_dv hgood 1).2 (Nat.one_dvd _)
      have hD0 : 0 < (Wm.dv (l.take k)).length := List.length_pos_of_mem hD1
      have hP1 : 1 ≤ P := by have := hpk.1.1; omega
      have hsmall := fac_small' (unhide HFAC) h6 hmem
      rw [← hP, ← hK] at hsmall c1 c2
      rw [hnext] at hlen
      have hlen2 : (Wm.dv (l.take k)).length + (Wm.dv (l.take k)).length * K ≤ 1000000 := by
        have := contI_length (Wm.dv (l.take k)) P K (Wm.dv (l.take k)).length (Nat.le_refl _)
        rw [contI_all] at this
        omega
      have HNEXT := hide hnext
      have HPOS := hide hpos
      clear hmem hpk htk hgood hdvd hcnt hle1 hP hK hnext hlen hpos hD1
      generalize Wm.dv (l.take k) = D at *
      obtain ⟨g, cap, rfl, hg1, hg2, hg3, hg4, -⟩ := row_open hown hD0
      have hwx := hext.size
      have HOWN := hide hown
      obtain ⟨A2, cA2, hv2, R2, -⟩ := row_of_own (hown.alloc (.cells #[.int .i64 P, .int .i64 K] 63))
      have HR2 := hide R2
      have hA2 : A2 = some ⟨g, 0, none⟩ := by injection hv2 with hv2; exact hv2.symm
      subst hA2
      clear hown R2 hv2
      unfold maxLen at hg4
      have cc := hide (clone_int (some ⟨g, 0, none⟩) D.length cap (nats .i64 D) (wr.alloc (.cells #[.int .i64 P, .int .i64 K] 63)) (unhide HR2) (nats_one _ _) (by omega) (fun h => by cases h))
      go_wp2_with fail
      refine (unhide cc).mono ?_
      rintro e w2 ⟨⟨vc, rfl, hcl⟩, E2⟩
      obtain ⟨Ac, ccap, rfl, Rc, -, -, hAc⟩ := row_of_own hcl
      have hx0 := E2.keep (a := ⟨wr.heap.size, 0, none⟩) (v := .int .i64 P) (by simp)
      have hx1 := E2.keep (a := ⟨wr.heap.size, 1, none⟩) (v := .int .i64 K) (by simp)
      have F2 : Ext wr w2 := ((Ext.refl wr).alloc _).trans E2
      have HOWN2 := hide (row_ext (unhide HOWN) F2)
      have hF2 := hext.trans F2
      have hs2 : wr.heap.size + 1 ≤ w2.heap.size := by have := E2.size; simpa using this
      have HRC := hide Rc
      have HX0 := hide hx0
      have HX1 := hide hx1
      have HAC := hide (fun b o (h : Ac = some ⟨b, o, none⟩) => (show (Value.slice (some ⟨g, 0, none⟩) D.length cap).ownBlock ≠ some b from by
        have := (hAc b o h).1
        simp [Value.ownBlock] at this ⊢
        omega))
      clear cc hcl Rc hAc hx0 hx1 E2
      obtain ⟨wz, rfl⟩ : ∃ wz : World, wz = wr := ⟨_, rfl⟩
      go_wp2
      go_loopw [6, 29] (fun v i wi => ∃ q : Nat, q ≤ D.length ∧ i = .int .i64 q ∧ wi.ownsRow w1.heap.size 3 1 v (contI D P K q).length (nats .i64 (contI D P K q)) ∧ Hid (OutOf w2 (.slice (some ⟨g, 0, none⟩) D.length cap) wi v) ∧ Ext w1 wi) (fun _ i _ => D.length - (intOf i).toNat)
      case atStart => exact ⟨0, by omega, rfl, by rw [contI_zero]; exact unhide HOWN2, hide (OutOf.refl _ _), hF2⟩
      case round =>
        obtain ⟨q, hq, rfl, hownq, hout, hextq⟩ := hrel
        have HQ := hide hownq
        clear hownq
        by_cases hql : q < D.length
        · obtain ⟨bc, oc, rfl, hbc, hc⟩ := ((unhide hout).row (unhide HRC) (unhide HAC)).nat hql
          have hx1 := ((unhide hout).cell (a := ⟨wz.heap.size, 1, none⟩) (by simp; omega) (by simp [Value.ownBlock]; omega)).trans (unhide HX1)
          have hdp := unhide HPOS _ (getD_mem D 0 hql)
          have hcs := contI_succ D P K q hql
          have hcl := contI_length D P K q hq
          have hqK : (q + 1) * K ≤ D.length * K := Nat.mul_le_mul_right K hql
          rw [Nat.add_mul] at hqK
          generalize D.getD q 0 = d at *
          have HDP := hide hdp
          have HCS := hide hcs
          have HCL := hide hcl
          clear hdp hcs hcl
          have hK6 : (K : Int) ≤ 1000000 := by omega
          have hlenq : D.length + q * K + K ≤ 1000000 := by omega
          go_wp2
          go_loopw [6, 10, 35] (fun v y i wj => ∃ t s : Nat, t ≤ K ∧ i = .int .i64 t ∧ y = .int .i64 s ∧ s ≤ 1000000 ∧ Hid (s = d * P ^ t) ∧ wj.ownsRow w1.heap.size 3 1 v (contI D P K q ++ (List.range t).map fun j => d * P ^ (j + 1)).length (nats .i64 (contI D P K q ++ (List.range t).map fun j => d * P ^ (j + 1))) ∧ Hid (OutOf w2 (.slice (some ⟨g, 0, none⟩) D.length cap) wj v) ∧ Ext w1 wj) (fun _ _ i _ => K - (intOf i).toNat)
          case atStart => exact ⟨0, d, by omega, rfl, rfl, by have := (unhide HDP).2 0 (by omega); simpa using this, hide (by simp), by simpa using unhide HQ, hout, hextq⟩
          case round =>
            obtain ⟨t, s, ht, rfl, rfl, hs6, hs, hownt, houtt, hextt⟩ := hrel
            have HT := hide hownt
            clear hownt
            by_cases htl : t < K
            · have hx0 := ((unhide houtt).cell (a := ⟨wz.heap.size, 0, none⟩) (by simp; omega) (by simp [Value.ownBlock]; omega)).trans (unhide HX0)
              have hs2' := (unhide HDP).2 (t + 1) (by omega)
              have hsp : s * P = d * P ^ (t + 1) := by rw [unhide hs, Nat.pow_succ, Nat.mul_assoc]
              have hcast : ((s * P : Nat) : Int) = (s : Int) * (P : Int) := Int.natCast_mul s P
              obtain ⟨u, hu⟩ : ∃ u, u = s * P := ⟨_, rfl⟩
              have hui : (s : Int) * (P : Int) = (u : Int) := by rw [hu]; exact hcast.symm
              have hu6 : u ≤ 1000000 := by rw [hu, hsp]; exact hs2'
              have HU := hide (show u = d * P ^ (t + 1) by rw [hu, hsp])
              have hll : (contI D P K q ++ (List.range t).map fun j => d * P ^ (j + 1)).length = D.length + q * K + t := by rw [List.length_append, unhide HCL]; simp
              have hbd : ((contI D P K q ++ (List.range t).map fun j => d * P ^ (j + 1)).length + 1) * 8 ≤ 140737488355328 ∧ (contI D P K q ++ (List.range t).map fun j => d * P ^ (j + 1)).length + 1 ≤ 9223372036854775807 := by rw [hll]; omega
              have hnew : contI D P K q ++ ((List.range (t + 1)).map fun j => d * P ^ (j + 1)) = (contI D P K q ++ (List.range t).map fun j => d * P ^ (j + 1)) ++ [u] := by
                rw [range_map_succ, ← List.append_assoc, ← unhide HU]
              have HNEW := hide hnew
              have hu0 : 0 ≤ (s : Int) * (P : Int) := by omega
              have hu1 : (s : Int) * (P : Int) ≤ 1000000 := by omega
              have HUI := hide hui
              clear hs2' hsp hcast hu hll hnew
              go_wp2_with (at_builtin; refine wpList_apx rfl _ _ 22 (by rfl) 3 intI hextt _ _ _ _ (by rfl) (unhide HT) 1 1 (by rfl) rfl rfl hbd (unhide houtt) ?_)
              intro v' w' hown' hext' hout'
              have hown2 : w'.ownsRow w1.heap.size 3 1 v' (contI D P K q ++ (List.range (t + 1)).map fun j => d * P ^ (j + 1)).length (nats .i64 (contI D P K q ++ (List.range (t + 1)).map fun j => d * P ^ (j + 1))) := by
                rw [unhide HNEW, ← nats_append, List.length_append, List.length_append, List.length_map, List.length_range]; exact hown'
              have HO2 := hide hout'
              clear hown' hout' hbd
              go_wp2
              go_roundw
              case rel => exact ⟨t + 1, u, by omega, by go_num, rfl, hu6, HU, hown2, HO2, hext'⟩
              case measure => simp [intOf]; omega
            · obtain rfl : t = K := by omega
              have hown2 := unhide HT
              rw [← unhide HCS] at hown2
              clear HT
              go_wp2
              go_roundw
              case rel => exact ⟨q + 1, by omega, by go_num, hown2, houtt, hextt⟩
              case measure => simp [intOf]; omega
        · obtain rfl : q = D.length := by omega
          have hown2 := unhide HQ
          rw [contI_all, ← unhide HNEXT] at hown2
          clear HQ
          go_wp2
          go_roundw
          case rel => exact ⟨k + 1, by omega, by go_num, hown2, hextq⟩
          case measure => simp [intOf]; omega
    · obtain rfl : k = L := by omega
      rw [show l.take k = l by rw [← unhide HL]; exact List.take_length] at hown
      have hgood := (unhide HFAC).good
      obtain ⟨T, hT1, hT2, hT3⟩ := sorted_nats (Wm.dv l) (Wm.nodup_dv hgood)
      have hlen : (Wm.dv l).length ≤ 1000000 := by
        have := Wm.cntD_le hgood
        rw [Wm.length_dv]
        rw [(unhide HFAC).2.2] at this
        omega
      have hD0 : 0 < (Wm.dv l).length := List.length_pos_of_mem ((Wm.mem_dv hgood 1).2 (Nat.one_dvd _))
      obtain ⟨g, cap, rfl, hg1, hg2, hg3, hg4, -⟩ := row_open hown hD0
      rw [nats_ints] at hown
      have hlm : ((Wm.dv l).map fun x : Nat => (x : Int)).length = (Wm.dv l).length := List.length_map _
      have cs := sort_own w1 wr (.slice (some ⟨g, 0, none⟩) (Wm.dv l).length cap) ((Wm.dv l).map fun x : Nat => (x : Int)) hext (by rw [hlm]; exact hown) (by rw [hlm]; omega)
      rw [hT3, ← nats_ints, hlm] at cs
      have CS := hide cs
      have HT := hide (And.intro hT1 hT2)
      have hTl := hT1.length_eq
      clear hown cs hT1 hT2 hT3 hlm hgood
      unfold maxLen at hg4
      go_wp2_with fail
      refine (unhide CS).mono ?_
      rintro e w3 ⟨rfl, hown3, E3⟩
      go_wp2_with fail
      refine (clip_int _ _ _ _ hg3 (by omega) (fun h => by cases h)).mono ?_
      rintro e w4 ⟨rfl, rfl⟩
      have hmade := (Made.of_own hown3).clip.mono E1.size
      have HM := hide (show Made w4 w.heap.size 3 1 (.slice (some ⟨g, 0, none⟩) (Wm.dv l).length (Wm.dv l).length) T.length (nats .i64 T) by rw [hTl]; exact hmade)
      clear hmade hown3 CS
      go_wp2
      go_ret2
      exact ⟨⟨l, T, _, unhide HFAC, (unhide HT).1, (unhide HT).2, rfl, unhide HM⟩, E1.trans E3⟩

end Go.Proofs.Ytahchidghfeofaa
