/-
  The walk of the law ReedAny.
-/
import Derived.Test.YtkkohaojbijklaaReed5
set_option linter.unusedVariables false
set_option linter.unusedSimpArgs false
namespace Wm
theorem cH_cells (bs : List Nat) (s : Nat) {x i : Nat} (h : i < x) : cH (cellsL bs s x) i = s.testBit i := by unfold cH; rw [cellsL_get bs s h]
theorem cB_cells (bs : List Nat) (s : Nat) {x i : Nat} (h : i < x) (ht : s.testBit i = true) : cB (cellsL bs s x) i = bs.getD i 0 := by unfold cB; rw [cellsL_get bs s h, if_pos ht]
theorem cB_lt {bs : List Nat} (hb : B256 bs) (s x i : Nat) : cB (cellsL bs s x) i < 256 := by
  by_cases h : i < x
  · unfold cB
    rw [cellsL_get bs s h]
    show (if _ then _ else _) < 256
    split
    · exact hb i
    · omega
  · unfold cB
    rw [List.getD_eq_getElem?_getD, List.getElem?_eq_none (by rw [cellsL_length]; omega)]
    exact Nat.zero_lt_succ _
theorem mem_getD_ {α : Type} {l : List α} {d : α} {k : Nat} (h : k < l.length) : l.getD k d ∈ l := by
  rw [List.getD_eq_getElem?_getD, List.getElem?_eq_getElem h]
  exact List.getElem_mem h
theorem putL_lt {d : List Nat} {n : Nat} (hd : B256 d) (hk : d.length ≤ n) (hn : n ≤ 256) : B256 (putL d n) := rowL_lt (B256.range (by omega)) hd hn
/-- Any k cells make the row again. -/
theorem mend_cells {d : List Nat} {m s : Nat} (hd : B256 d) (hm : m ≤ 256) (hk : d.length ≤ m) (hc : d.length ≤ cnt (cH (cellsL (putL d m) s m)) m) :
    mendL (cellsL (putL d m) s m) d.length = putL d m ∧ mendN (cellsL (putL d m) s m) d.length m = false := by
  have hp := putL_lt hd hk hm
  have key : mendL (cellsL (putL d m) s m) d.length = putL d m := by
    unfold mendL
    rw [cellsL_length]
    have hl : (pt (cH (cellsL (putL d m) s m)) d.length m).length = d.length := by rw [pt_length]; omega
    refine mend_row hd hm (pt_nodup _ _ _) (fun x hx => (pt_mem hx).1) hl hk (B256.of fun y hy => ?_) fun i hi => ?_
    · obtain ⟨i, -, rfl⟩ := List.mem_map.1 hy
      exact cB_lt hp _ _ _
    · rw [getD_map_ 0 hi]
      have h := pt_mem (mem_getD_ (d := 0) hi)
      rw [cH_cells _ _ h.1] at h
      rw [cB_cells _ _ h.1 h.2]
  refine ⟨key, mendN_of fun i hi h => ?_⟩
  rw [cH_cells _ _ hi] at h
  rw [key, cB_cells _ _ hi h]
end Wm
namespace Go.Proofs.Ytkkohaojbijklaa
open Go.RowKit Go.BigFrame

set_option maxRecDepth 100000 in
set_option maxHeartbeats 1000000 in
theorem equal_u8 (A B : Option Addr) (n m c d : Nat) (xs ys : List Nat) (w : World) (R : Row w A n 1 (nats .u8 xs)) (S : Row w B m 1 (nats .u8 ys)) (hn : (n : Int) ≤ 9223372036854775807) (hm : (m : Int) ≤ 9223372036854775807) :
    Calls Try.prog 14 #[.slice A n c, .slice B m d] w fun e w' => e = .returned (.bool (decide (xs = ys))) ∧ ∃ k, w' = w.drewN k := by
  have hx := R.numN
  have hy := S.numN
  by_cases hnm : n = m
  · subst hnm
    have HX := hide hx
    have HY := hide hy
    have HR := hide R
    have HS := hide S
    clear hx hy R S
    go_enter Try.func14, Try.ntmps14
    go_wp2
    go_loopw [13] (fun i wr => ∃ k : Nat, k ≤ n ∧ i = .int .i64 k ∧ Hid (∀ j, j < k → xs.getD j 0 = ys.getD j 0) ∧ ∃ q, wr = w.drewN q) (fun i _ => n - (intOf i).toNat)
    case atStart => exact ⟨0, by omega, rfl, hide (fun j h => absurd h (by omega)), 0, rfl⟩
    case round =>
      obtain ⟨k, hk, rfl, hz, q, rfl⟩ := hrel
      by_cases hlt : k < n
      · obtain ⟨b, o, rfl, hb, c1⟩ := (unhide HR).nat hlt
        obtain ⟨b', o', rfl, hb', c2⟩ := (unhide HS).nat hlt
        have hk0 : (0 : Int) ≤ (k : Int) := by omega
        have hk1 : (k : Int) < (n : Int) := by omega
        by_cases he : xs.getD k 0 = ys.getD k 0
        · have hz2 := hide (fun j (hj : j < k + 1) => (show xs.getD j 0 = ys.getD j 0 from by
            by_cases h : j < k
            · exact unhide hz j h
            · obtain rfl : j = k := by omega
              exact he))
          rw [he] at c1
          clear he
          generalize ys.getD k 0 = y at *
          go_wp2
          go_quiet (fail)
          go_wp2
          go_roundw
          case rel => exact ⟨k + 1, by omega, by go_num, hz2, _, rfl⟩
          case measure => simp [intOf]; omega
        · have hne : (((xs.getD k 0 : Nat) : Int) != ((ys.getD k 0 : Nat) : Int)) = true := by rw [bne_iff_ne]; exact fun h => he (by exact_mod_cast h)
          have hfin := hide (show decide (xs = ys) = false from decide_eq_false (fun h => he (by rw [h])))
          clear he
          generalize xs.getD k 0 = x at *
          generalize ys.getD k 0 = y at *
          go_wp2
          go_quiet (fail)
          go_wp2
          go_ret
          exact ⟨ret_boolv (unhide hfin).symm, _, World.drewN_drewN _ _ _⟩
      · obtain rfl : k = n := by omega
        have hfin := hide (show decide (xs = ys) = true from decide_eq_true (by
          have h1 := unhide HX
          have h2 := unhide HY
          apply List.ext_getElem (by omega)
          intro j j1 j2
          have := unhide hz j (by omega)
          rwa [List.getD_eq_getElem?_getD, List.getElem?_eq_getElem j1, List.getD_eq_getElem?_getD, List.getElem?_eq_getElem j2] at this))
        go_wp2
        go_ret
        exact ⟨ret_boolv (unhide hfin).symm, _, rfl⟩
  · have hv : decide (xs = ys) = false := decide_eq_false (fun h => hnm (by rw [← hx, ← hy, h]))
    rw [hv]
    have hb1 : ((n : Int) != (m : Int)) = true := by rw [bne_iff_ne]; omega
    have hb2 : (n != m) = true := by rw [bne_iff_ne]; exact hnm
    clear hv hx hy hnm R S
    go_enter Try.func14, Try.ntmps14
    go_wp2
    go_ret
    exact ⟨rfl, 0, rfl⟩

/-- A number that Put takes. -/
theorem put_nat {n : Nat} {N : Int} (h : putErr n N = 0) : ∃ m : Nat, N = m ∧ 1 ≤ n ∧ n ≤ m ∧ m ≤ 20 := by
  unfold putErr at h
  by_cases a : n < 1 ∨ 20 < n
  · rw [if_pos a] at h; exact absurd h (by omega)
  · rw [if_neg a] at h
    by_cases b : N < n ∨ 20 < N
    · rw [if_pos b] at h; exact absurd h (by omega)
    · exact ⟨N.toNat, by omega, by omega, by omega, by omega⟩

set_option maxRecDepth 100000 in
set_option maxHeartbeats 4000000 in
theorem any_law (A : Option Addr) (n c : Nat) (l : List Nat) (N : Int) (s : Nat) (hs : s < 4294967296) (w : World) (S : SliceIn w A n c 1 1 (nats .u8 l)) (h8 : ∀ x ∈ l, x < 256) :
    Calls Try.prog 6 #[.slice A n c, .int .i64 N, .int .u32 s] w fun e w' => e = .returned (.bool true) ∧ Ext w w' := by
  have hB := Wm.B256.of h8
  have HS := hide S.1
  have hlen := hide S.1.numN
  clear S h8
  go_enter Try.func6, Try.ntmps6
  go_wp2_with fail
  refine (rows_any w).mono ?_
  rintro e w1 ⟨rfl, E1⟩
  by_cases hp : putErr n N = 0
  · obtain ⟨m, rfl, hn1, hnm, hm⟩ := put_nat hp
    have CP := hide (Put_ok A n c m l w1 ((unhide HS).keep E1) hB hn1 hnm hm)
    have HB := hide hB
    have HP := hide (Wm.putL_lt hB (n := m) (by have := unhide hlen; omega) (by omega))
    have HK := hide (fun (h : l.length ≤ Wm.cnt (Wm.cH (Wm.cellsL (Wm.putL l m) s m)) m) => Wm.mend_cells hB (by omega) (by have := unhide hlen; omega) h)
    have HTK := hide (Wm.putL_take hB (n := m) (by omega) (by have := unhide hlen; omega))
    rw [unhide hlen] at HK HTK
    clear hp hB
    go_wp2_with fail
    refine (unhide CP).mono ?_
    rintro e w2 ⟨⟨v, rfl, M⟩, E2⟩
    have HE2 := hide (E1.trans E2)
    obtain ⟨B, cb, rfl, RB, hb1, hb2, -⟩ := M.open_
    have HRB := hide RB
    clear M E2 CP RB E1
    generalize hrow : Wm.putL l m = row at *
    clear hrow
    have CC := hide (cells_ok B m cb row s w2 (unhide HRB) (by omega) hs (unhide HP))
    have H8 := hide (fun i => Wm.cB_lt (unhide HP) s m i)
    generalize hL : Wm.cellsL row s m = L at *
    have hLl := hide (show L.length = m by rw [← hL]; exact Wm.cellsL_length _ _ _)
    clear hL
    go_wp2_with fail
    refine (unhide CC).mono ?_
    rintro e w3 ⟨⟨v, rfl, M⟩, E3⟩
    obtain ⟨D, cd, rfl, RD, hd1, hd2, -⟩ := M.open_
    have HRD := hide RD
    have HE3 := hide ((unhide HE2).trans E3)
    have HRB := hide ((unhide HRB).keep E3)
    clear M RD E3 HE2 CC
    have CM := hide (RMend_ok D n cd m L w3 (unhide HRD) (unhide H8) hn1 hnm hm)
    go_wp2_with fail
    refine (unhide CM).mono ?_
    rintro e w4 ⟨hout, E4⟩
    have HOUT := hide hout
    have HE4 := hide ((unhide HE3).trans E4)
    have HRB := hide ((unhide HRB).keep E4)
    have HRD := hide ((unhide HRD).keep E4)
    clear hout E4 CM HE3
    obtain ⟨mv, f, rfl, hcase⟩ : ∃ mv f, e = .returned (.tuple #[mv, .int .i64 f]) ∧ ((Wm.cnt (Wm.cH L) m < n ∧ f = 9 ∧ mv = .slice none 0 0) ∨ (n ≤ Wm.cnt (Wm.cH L) m ∧ f = 0 ∧ ∃ A' c', mv = .slice A' m c' ∧ Row w4 A' m 1 (nats .u8 row))) := by
      rcases unhide HOUT with ⟨h1, rfl⟩ | ⟨h1, h2, rfl⟩ | ⟨h1, h2, v, rfl, M⟩
      · exact ⟨_, _, rfl, .inl ⟨h1, rfl, rfl⟩⟩
      · rw [((unhide HK) h1).2] at h2
        cases h2
      · rw [((unhide HK) h1).1] at M
        obtain ⟨A', c', rfl, RA', -⟩ := M.open_
        exact ⟨_, _, rfl, .inr ⟨h1, rfl, A', c', rfl, RA'⟩⟩
    have HCASE := hide hcase
    clear hcase HOUT
    have HS4 := hide ((unhide HS).keep (unhide HE4))
    clear HK
    go_wp2
    go_loopw [12, 40] (fun g i wz => ∃ x : Nat, x ≤ m ∧ i = .int .i64 x ∧ g = .int .i64 (Wm.cnt (Wm.cH L) x) ∧ Ext w4 wz) (fun _ i _ => m - (intOf i).toNat)
    case atStart => exact ⟨0, Nat.zero_le _, rfl, rfl, Ext.refl w4⟩
    case round =>
      obtain ⟨x, hx, rfl, rfl, hext⟩ := hrel
      obtain ⟨g, hg⟩ : ∃ g, g = Wm.cnt (Wm.cH L) x := ⟨_, rfl⟩
      have hgx := Wm.cnt_le (Wm.cH L) x
      rw [← hg] at hgx ⊢
      have HG := hide hg
      have HX := hide hext
      clear hg
      by_cases hlt : x < m
      · obtain ⟨b, o, rfl, hbl, hc1, hc2⟩ := ((unhide HRD).keep hext).cl hlt
        generalize Wm.cB L x = y at hc2
        obtain ⟨h, hh⟩ : ∃ h, h = Wm.cH L x := ⟨_, rfl⟩
        rw [← hh] at hc1
        have HH := hide hh
        clear hh hext
        cases h with
        | false =>
          go_wp2
          go_roundw
          case rel =>
            have HX2 := unhide HX
            refine ⟨x + 1, by omega, num_eqR (by omega), ?_, (by repeat (first | exact HX2 | refine Ext.alloc ?_ _ | refine Ext.drew ?_ | refine Ext.drewN ?_ _ | (refine Ext.trans ?_ (plus_ext _ _)) | (refine Ext.setCell ?_ (by have := Ext.size HX2; simp; omega) _)))⟩
            simp only [Wm.cnt, ← unhide HH, ← unhide HG]
            simp
          case measure => simp [intOf]; omega
        | true =>
          go_wp2
          go_roundw
          case rel =>
            have HX2 := unhide HX
            refine ⟨x + 1, by omega, num_eqR (by omega), ?_, (by repeat (first | exact HX2 | refine Ext.alloc ?_ _ | refine Ext.drew ?_ | refine Ext.drewN ?_ _ | (refine Ext.trans ?_ (plus_ext _ _)) | (refine Ext.setCell ?_ (by have := Ext.size HX2; simp; omega) _)))⟩
            simp only [Wm.cnt, ← unhide HH, ← unhide HG]
            simp
          case measure => simp [intOf]; omega
      · obtain rfl : x = m := by omega
        have HES := hide ((unhide HE4).trans hext)
        by_cases hgn : g < n
        · rcases unhide HCASE with ⟨-, rfl, rfl⟩ | ⟨h1, -⟩
          · clear HCASE HG
            go_wp2
            go_ret
            have HX2 := unhide HES
            exact ⟨rfl, (by repeat (first | exact HX2 | refine Ext.alloc ?_ _ | refine Ext.drew ?_ | refine Ext.drewN ?_ _ | (refine Ext.trans ?_ (plus_ext _ _)) | (refine Ext.setCell ?_ (by have := Ext.size HX2; simp; omega) _)))⟩
          · exact absurd h1 (by rw [← unhide HG]; omega)
        · rcases unhide HCASE with ⟨h1, -⟩ | ⟨-, rfl, A', c', rfl, RM⟩
          · exact absurd h1 (by rw [← unhide HG]; omega)
          · have CE1 := hide (fun (wz : World) (E : Ext wr wz) => equal_u8 A' B x x c' cb row row wz ((RM.keep hext).keep E) (((unhide HRB).keep hext).keep E) (by omega) (by omega))
            have RT : Row wr B n 1 (nats .u8 l) := by
              have := ((unhide HRB).keep hext).take (k := n) (by omega)
              rwa [Nat.mul_one, nats_take, unhide HTK] at this
            have CE2 := hide (fun (wz : World) (E : Ext wr wz) => equal_u8 B A n n cb c l l wz (RT.keep E) (((unhide HS4).keep hext).keep E) (by omega) (by omega))
            rw [decide_eq_true (rfl : row = row)] at CE1
            rw [decide_eq_true (rfl : l = l)] at CE2
            clear HCASE HG RM RT
            go_wp2_with fail
            refine (unhide CE1 _ (Ext.refl _)).mono ?_
            rintro e w6 ⟨rfl, nk, rfl⟩
            go_wp2_with fail
            refine (unhide CE2 _ ((Ext.refl _).drewN _)).mono ?_
            rintro e w7 ⟨rfl, nk2, rfl⟩
            go_wp2
            go_ret
            have HX2 := unhide HES
            exact ⟨rfl, (by repeat (first | exact HX2 | refine Ext.alloc ?_ _ | refine Ext.drew ?_ | refine Ext.drewN ?_ _ | (refine Ext.trans ?_ (plus_ext _ _)) | (refine Ext.setCell ?_ (by have := Ext.size HX2; simp; omega) _)))⟩
  · have hb := hide (Put_bad A n c N w1 hp)
    obtain ⟨q, hq⟩ : ∃ q, q = putErr n N := ⟨_, rfl⟩
    rw [← hq] at hb hp
    have HP := hide hp
    have hne : (q != 0) = true := by rw [bne_iff_ne]; exact hp
    have HE := hide E1
    clear hq hp hB HS E1
    go_wp2_with fail
    refine (unhide hb).mono ?_
    rintro e w2 ⟨rfl, rfl⟩
    go_wp2
    go_ret
    exact ⟨rfl, unhide HE⟩
end Go.Proofs.Ytkkohaojbijklaa
