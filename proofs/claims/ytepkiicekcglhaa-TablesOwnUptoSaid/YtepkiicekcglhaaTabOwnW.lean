/-
  The walk of the law TablesOwn, where what comes in is of bounded bulk.
-/
import Derived.Test.YtepkiicekcglhaaTabOwn1
import Derived.Test.YtepkiicekcglhaaMin
set_option linter.unusedVariables false
set_option linter.unusedSimpArgs false
namespace Go.Proofs.Ytepkiicekcglhaa
open Go.RowKit Go.BigFrame

--{
set_option maxRecDepth 100000 in
set_option maxHeartbeats 4000000 in
theorem town_law (A : Option Addr) (n c : Nat) (ra : Nat → Option Addr) (ln cp : Nat → Nat) (M : Nat → Nat → Nat) (B : Option Addr) (m c2 : Nat) (rb : Nat → Option Addr) (l2 cp2 : Nat → Nat) (N : Nat → Nat → Nat) (V : Option Addr) (nv cv : Nat) (lv : List Nat) (K : Int) (w : World)
    (T : Tab w A n ra ln cp M) (hn : n ≤ 1048576) (hA : A = none → n = 0 ∧ c = 0) (hr : ∀ i, i < n → ln i ≤ 1048576 ∧ (ra i = none → ln i = 0 ∧ cp i = 0))
    (S : Tab w B m rb l2 cp2 N) (hm : m ≤ 1048576) (hB : B = none → m = 0 ∧ c2 = 0) (hr2 : ∀ i, i < m → l2 i ≤ 1048576 ∧ (rb i = none → l2 i = 0 ∧ cp2 i = 0))
    (SV : SliceIn w V nv cv 1 1 (nats .u8 lv)) (h83 : ∀ x ∈ lv, x < 256) :
    Calls Try.prog 3 #[.slice A n c, .slice B m c2, .slice V nv cv, .int .i64 K] w fun e w' => e = .returned (.bool true) ∧ Ext w w' := by
  obtain ⟨q, hq⟩ : ∃ q, q = n + m := ⟨_, rfl⟩
  obtain ⟨LN, hLN⟩ : ∃ LN, LN = cat n ln l2 := ⟨_, rfl⟩
  obtain ⟨CP, hCP⟩ : ∃ CP, CP = cat n cp cp2 := ⟨_, rfl⟩
  obtain ⟨RA, hRA⟩ : ∃ RA, RA = cat n ra rb := ⟨_, rfl⟩
  obtain ⟨MM, hMM⟩ : ∃ MM, MM = cat n M N := ⟨_, rfl⟩
  have hq2 : q ≤ 2097152 := by omega
  have HRR := hide (show ∀ i, i < q → LN i ≤ 1048576 ∧ (RA i = none → LN i = 0 ∧ CP i = 0) from fun i hi => by
    rw [hLN, hCP, hRA]
    unfold cat
    by_cases d : i < n
    · rw [if_pos d, if_pos d, if_pos d]; exact hr i d
    · rw [if_neg d, if_neg d, if_neg d]; exact hr2 _ (by omega))
  have HT := hide T
  have HS := hide S
  have HA := hide hA
  have HB := hide hB
  have CT := hide tables_any
  have CR := hide rows_any
  have HV := hide SV.1
  have HVB := hide SV.2
  have HVL := hide SV.1.numN
  have HV8 := hide (show Wm.B256 lv from Wm.B256.of h83)
  have HCT := hide (fun (W : World) (C : Option Addr) (E : Ext w W) (R : Row W C q 1 (hdT ra ln cp n ++ hdT rb l2 cp2 m)) => show Tab W C q RA LN CP MM from by
    rw [hq] at R ⊢
    rw [hRA, hLN, hCP, hMM]
    exact (T.keep E).cat (S.keep E) R)
  have HQ := hide hq
  have HMMl := hide (show ∀ i j, MM i j < 256 from fun i j => by
    rw [hMM]; unfold cat; split
    · exact T.lt i j
    · exact S.lt _ j)
  -- Concat(a, b) at a world
  have CC := hide (fun (W : World) (E : Ext w W) => concat_rows W.heap.size n c m c2 A B (hdT ra ln cp n) (hdT rb l2 cp2 m) (W.alloc (.cells #[.slice A n c, .slice B m c2] 22)) (by simp) (by simp) (by simp)
    ((T.hdR.keep E).alloc _) ((S.hdR.keep E).alloc _) (hdT_one _ _ _ _) (hdT_one _ _ _ _) hA hB (by omega) (by omega))
  rw [← hq] at CC
  have CM := hide (fun (W : World) (E : Ext w W) => MMul_any A n c ra ln cp M B m c2 rb l2 cp2 N W (T.keep E) (S.keep E) (by omega) (by omega))
  have CI := hide (fun (W : World) (E : Ext w W) => Inverse_any A n c ra ln cp M W (T.keep E) (by omega))
  have CP_ := hide (fun (W : World) (E : Ext w W) => Put_any V nv cv K lv W ((unhide HV).keep E) (unhide HV8))
  have hmI : (m : Int) ≤ 2097152 := by omega
  have hnI : (n : Int) ≤ 2097152 := by omega
  clear T S hA hB hr hr2 hq hLN hCP hRA hMM SV h83
  go_enter Try.func3, Try.ntmps3
  go_wp2_with fail
  refine (unhide CT _).mono ?_
  rintro e w1 ⟨rfl, E1⟩
  go_wp2_with fail
  refine (unhide CR _).mono ?_
  rintro e w2 ⟨rfl, E2⟩
  have HE2 := hide (E1.trans E2)
  have CC2 := hide (unhide CC w2 (unhide HE2))
  clear E1 E2 CT CR
  go_wp2_with fail
  refine (unhide CC2).mono ?_
  rintro e w3 ⟨⟨v3, rfl, own3⟩, E3⟩
  have HE3 := hide ((unhide HE2).trans (((Ext.refl w2).alloc _).trans E3))
  obtain ⟨C3, cc3, rfl, R3, -, -, hb3⟩ := row_of_own own3
  have HT3 := hide (unhide HCT w3 C3 (unhide HE3) R3)
  clear CC2 own3 R3 hb3 E3 HE2
  go_wp2
  go_loopw [9, 38] (fun v i wr => ∃ x : Nat, x ≤ q ∧ i = .int .i64 x ∧ ∃ rx cx, Hid (Bag 23 w3 wr v x rx LN cx MM)) (fun _ i _ => q - (intOf i).toNat)
  case atStart => exact ⟨0, Nat.zero_le _, rfl, _, _, hide (Bag.nil _ _ (fun _ => none) _ (fun _ => 0) _)⟩
  case round =>
    obtain ⟨x, hx, rfl, rx, cx, HBg⟩ := hrel
    by_cases hlt : x < q
    · obtain ⟨wo, hwo⟩ : ∃ wo, wo = wr := ⟨_, rfl⟩
      subst hwo
      have HTX := hide ((unhide HT3).keep (unhide HBg).ext)
      have hh := (unhide HTX).hd (by omega)
      obtain ⟨bC, oC, rfl, hbC, hcC⟩ := hh
      have hcx := hcC x hlt
      have CL := hide (clone_row (RA x) (LN x) (CP x) (nats .u8 ((List.range (LN x)).map (MM x))) wo ((unhide HTX).rowN hlt) (by intro u hu; simp [nats] at hu; obtain ⟨_, _, rfl⟩ := hu; rfl) (by have := (unhide HRR x hlt).1; omega) (unhide HRR x hlt).2)
      have hcapx := (unhide HTX).cap x hlt
      have HML := hide (show ((List.range (LN x)).map (MM x)).length = LN x by simp)
      have HMG := hide (show ∀ j, j < LN x → ((List.range (LN x)).map (MM x)).getD j 0 = MM x j from fun j hj => by simp [List.getD_eq_getElem?_getD, hj])
      clear hcC hbC
      generalize RA x = rax at *
      generalize CP x = cpx at *
      go_wp2_with fail
      refine (unhide CL).mono ?_
      rintro e w4 ⟨⟨u4, rfl, own4⟩, E4⟩
      obtain ⟨A4, c4, rfl, R4, hlc4, hm4, hb4⟩ := row_of_own own4
      have E5 := E4.alloc (.cells #[.slice A4 (LN x) c4] 23)
      have HE5 := hide E5
      have HNEW := hide (show ∀ b o, A4 = some ⟨b, o, none⟩ → wo.heap.size ≤ b ∧ b < (w4.alloc (.cells #[.slice A4 (LN x) c4] 23)).heap.size from fun b o h => ⟨(hb4 b o h).1, by have := (hb4 b o h).2; simp; omega⟩)
      have HROW := hide (show 0 < LN x → ∃ b o, A4 = some ⟨b, o, none⟩ ∧ b < (w4.alloc (.cells #[.slice A4 (LN x) c4] 23)).heap.size ∧ ∀ j, j < LN x → (w4.alloc (.cells #[.slice A4 (LN x) c4] 23)).cell? ⟨b, o + j, none⟩ = some (.int .u8 (MM x j : Int)) from fun h0 => by
        obtain ⟨b, o, h1, h2, h3⟩ := (R4.alloc (.cells #[.slice A4 (LN x) c4] 23)).2 h0
        refine ⟨b, o, h1, h2, fun j hj => ?_⟩
        rw [h3 j (by omega), nats_get _ _ _ (by rw [unhide HML]; exact hj), unhide HMG j hj])
      have HCAP := hide (show LN x ≤ c4 ∧ c4 ≤ 9223372036854775807 from ⟨hlc4, by unfold maxLen at hm4; omega⟩)
      have HOW := hide ((unhide HBg).keep E5).own
      have HBD := hide (show (x + 1) * 24 ≤ 140737488355328 ∧ x + 1 ≤ 9223372036854775807 by omega)
      have HBS := hide (show w3.heap.size ≤ (w4.alloc (.cells #[.slice A4 (LN x) c4] 23)).heap.size from ((unhide HBg).ext.trans E5).size)
      have HONE := hide (show ([.slice A4 (LN x) c4] : List Value).all (fun u => u.oneCell') = true from by simp [Value.oneCell'])
      have HRN := hide (row_new w4 #[.slice A4 (LN x) c4] 23 1 1 rfl)
      obtain ⟨lx, hlx⟩ : ∃ lx, lx = LN x := ⟨_, rfl⟩
      have HLX := hide hlx
      clear own4 R4 hlc4 hm4 hb4 E4 E5 CL HMG HML hlx
      go_wp2_with (at_builtin; refine stop ?_)
      unfold Stop
      refine wpList_app_any rfl _ _ 22 (by rfl) 23 rowM w3.heap.size _ x _ (by rfl) (unhide HOW) (some ⟨w4.heap.size, 0, none⟩) 1 1 [.slice A4 (LN x) c4] (by rfl) (unhide HRN) (unhide HONE) (unhide HBD) (unhide HBS) ?_
      intro v' w6 hown6 hg6 hat6
      have HBN := hide ((unhide HBg).add (unhide HE5) (A := A4) (l := LN x) (c := c4) (f := MM x) (unhide HNEW) (unhide HROW) (unhide HCAP) hown6 hg6 (by
        rcases hat6 with h | h
        · exact .inl h
        · exact .inr ⟨_, h, Nat.le_refl _⟩))
      have HBN2 := hide ((unhide HBN).congr (ra' := upf rx x A4) (ln' := LN) (cp' := upf cx x c4) (M' := MM) fun i hi => by
        by_cases d : i = x
        · subst d; rw [upf_same, upf_same, upf_same, upf_same]; exact ⟨rfl, rfl, rfl, fun _ _ => rfl⟩
        · rw [upf_ne LN _ d, upf_ne MM _ d]; exact ⟨rfl, rfl, rfl, fun _ _ => rfl⟩)
      clear hown6 hg6 hat6 HBN
      go_wp2
      go_roundw
      case rel => exact ⟨x + 1, by omega, by go_num, _, _, HBN2⟩
      case measure => simp [intOf]; omega
    · obtain rfl : q = x := by omega
      obtain ⟨D, cd, rfl, TW⟩ := (unhide HBg).tab (unhide HMMl)
      have HE4 := hide ((unhide HE3).trans (unhide HBg).ext)
      have HTW := hide TW
      obtain ⟨w4, hw4⟩ : ∃ w4, w4 = wr := ⟨_, rfl⟩
      subst hw4
      have CL := hide (clone_row V nv cv (nats .u8 lv) w4 ((unhide HV).keep (unhide HE4)) (by intro u hu; simp [nats] at hu; obtain ⟨_, _, rfl⟩ := hu; rfl) (by have := (unhide HVB).2.1; have := (unhide HVB).1; omega) (unhide HVB).2.2.2)
      clear TW HT3
      go_wp2_with fail
      refine (unhide CL).mono ?_
      rintro e w5 ⟨⟨u5, rfl, own5⟩, E5⟩
      obtain ⟨A5, c5, rfl, R5, -, -, -⟩ := row_of_own own5
      have HE5 := hide ((unhide HE4).trans E5)
      have HTW5 := hide ((unhide HTW).keep E5)
      have HR5 := hide R5
      have CM5 := hide (unhide CM w5 (unhide HE5))
      clear own5 R5 E5 CL HTW
      go_wp2_with fail
      refine (unhide CM5).mono ?_
      rintro e w6 ⟨ho, E6⟩
      obtain ⟨v6, rfl, RS6⟩ := ho.rows
      obtain ⟨qm, hqm⟩ : ∃ qm, qm = mulErr n ln m l2 := ⟨_, rfl⟩
      have HQM := hide hqm
      rw [← hqm] at RS6 ⊢
      have HRS6 := hide RS6
      have HX6 := hide E6
      have CI6 := hide (unhide CI w6 ((unhide HE5).trans E6))
      clear ho RS6 E6 CM5 hqm
      go_wp2_with fail
      refine (unhide CI6).mono ?_
      rintro e w7 ⟨ho, E7⟩
      obtain ⟨v7, q7, k7, rfl, RS7, hk7⟩ := ho.rows
      have HX7 := hide ((unhide HX6).trans E7)
      have HRS7 := hide (RS7.mono (unhide HX6).size)
      have HRS67 := hide ((unhide HRS6).keep E7)
      clear ho RS7 E7 CI6 HRS6
      obtain ⟨X, cX, hX, rfl, hXn, RX, oX, SX⟩ := unhide HRS67
      obtain ⟨Y, cY, hY, rfl, hYn, RY, oY, SY⟩ := unhide HRS7
      obtain ⟨k6, hk6⟩ : ∃ k6, k6 = okN qm n := ⟨_, rfl⟩
      have HK6 := hide hk6
      rw [← hk6] at RX SX hXn ⊢
      have hk6n : k6 ≤ n := by rw [hk6]; unfold okN; split <;> omega
      have HSO := hide ((SX.cat SY).keep ((Ext.refl w7).alloc (.cells #[.slice X k6 cX, .slice Y k7 cY] 22)))
      have CN := hide (concat_rows w7.heap.size k6 cX k7 cY X Y hX hY (w7.alloc (.cells #[.slice X k6 cX, .slice Y k7 cY] 22)) (by simp) (by simp) (by simp) (RX.alloc _) (RY.alloc _) oX oY hXn hYn (by omega) (by omega))
      obtain ⟨k8, hk8⟩ : ∃ k8, k8 = k6 + k7 := ⟨_, rfl⟩
      have hk8I : (k8 : Int) ≤ 4194304 := by omega
      rw [← hk8] at HSO CN
      have HK6' := hide hk6
      clear RX RY oX oY hXn hYn SX SY HRS67 HRS7 hk6
      go_wp2_with fail
      refine (unhide CN).mono ?_
      rintro e w8 ⟨⟨v8, rfl, own8⟩, E8⟩
      obtain ⟨C8, c8, rfl, R8, -, -, hb8⟩ := row_of_own own8
      have HR8 := hide R8
      have HB8 := hide hb8
      have HS8 := hide ((unhide HSO).keep E8)
      have HX8 := hide ((unhide HX7).trans (((Ext.refl w7).alloc _).trans E8))
      obtain ⟨hs, hhs⟩ : ∃ hs, hs = hX ++ hY := ⟨_, rfl⟩
      rw [← hhs] at HR8 HS8 HSO
      clear own8 R8 hb8 CN HX7 E8 hhs
      go_wp2
      go_loopw [66] (fun i wr => ∃ x : Nat, x ≤ k8 ∧ i = .int .i64 x ∧ Hid (Ext w5 wr) ∧ Hid (Soil wr w5.heap.size k8 hs) ∧ Hid (Row wr C8 k8 1 hs)) (fun i _ => k8 - (intOf i).toNat)
      case atStart => exact ⟨0, Nat.zero_le _, rfl, HX8, HS8, HR8⟩
      case round =>
        clear HS8 HR8 HX8
        obtain ⟨x, hx, rfl, HX8, HS8, HR8⟩ := hrel
        by_cases hlt : x < k8
        · obtain ⟨b, l, cb, hget, hbase, hlc, hc63, RM⟩ := (unhide HS8).2 x hlt
          obtain ⟨bC, oC, rfl, hbC, hcC⟩ := (unhide HR8).2 (by omega)
          have hcx := (hcC x (by omega)).trans hget
          have hbl : b < (w7.alloc (.cells #[.slice X k6 cX, .slice Y k7 cY] 22)).heap.size := by
            obtain ⟨b', l', c', hg', -, -, -, RM'⟩ := (unhide HSO).2 x hlt
            rw [hget] at hg'
            injection hg' with hg'; injection hg' with hg' _ _; injection hg' with hg'; injection hg' with hg' _ _
            rw [hg']; exact RM'.lt
          have hbC2 := (unhide HB8 bC oC rfl).1
          have CS := hide (spoil_u8 b l cb 77 wr hlc hc63 RM)
          have HBASE := hide hbase
          have HBL := hide (show b < bC by omega)
          clear hcC hget hbl RM hbase hbC
          go_wp2_with fail
          refine (unhide CS).mono ?_
          rintro e w9 ⟨⟨r9, rfl⟩, hg9, hr9⟩
          have HX9 := hide ((unhide HX8).grown hg9 (fun q hq => by injection hq with hq; subst hq; exact unhide HBASE))
          have HS9 := hide ((unhide HS8).turn hg9 hr9)
          have HR9 := hide ((unhide HR8).grown hg9 (fun b' o h => by
            injection h with h; injection h with h _ _
            intro e; injection e with e
            have := unhide HBL; omega))
          clear hg9 hr9 CS
          go_wp2
          go_roundw
          case rel => exact ⟨x + 1, by omega, by go_num, HX9, HS9, HR9⟩
          case measure => simp [intOf]; omega
        · obtain rfl : k8 = x := by omega
          obtain ⟨w9, hw9⟩ : ∃ w9, w9 = wr := ⟨_, rfl⟩
          subst hw9
          clear HS8 HR8 HB8 HSO
          have CPA := hide (unhide CP_ w9 ((unhide HE5).trans (unhide HX8)))
          go_wp2_with fail
          refine (unhide CPA).mono ?_
          rintro e wa ⟨ho, Ea⟩
          obtain ⟨va, qa, rfl, hqa, hna, hka⟩ := ho.halves
          have HQA := hide hqa
          have HMA := hide (show ∃ na xs, Made wa w9.heap.size 5 1 va na xs from by
            by_cases h : qa = 0
            · obtain ⟨ma, -, -, -, -, M⟩ := hka h
              exact ⟨_, _, M⟩
            · rw [hna h]; exact ⟨0, [], Made.nil⟩)
          have HXA := hide ((unhide HX8).trans Ea)
          have HSZ := hide (unhide HX8).size
          clear ho hna hka hqa Ea CPA HX8
          obtain ⟨na, xa, MA⟩ := unhide HMA
          have CS := hide (spoil_made8 _ _ va na xa 77 wa MA)
          have HLA := hide MA.lt
          clear MA HMA
          go_wp2_with fail
          refine (unhide CS).mono ?_
          rintro e wb ⟨⟨rb', rfl⟩, hgb⟩
          have HXB := hide ((unhide HXA).grown hgb (fun q hq => Nat.le_trans (unhide HSZ) (unhide HLA q hq).1))
          have HEB := hide ((unhide HE5).trans (unhide HXB))
          clear hgb CS HLA HXA HSZ
          have CMB := hide (unhide CM wb (unhide HEB))
          go_wp2_with fail
          refine (unhide CMB).mono ?_
          rintro e wc ⟨ho, Ec⟩
          obtain ⟨vc, rfl, RSC⟩ := ho.rows
          rw [← unhide HQM, ← unhide HK6'] at RSC
          rw [← unhide HQM]
          obtain ⟨Z, cZ, hZ, rfl, -⟩ := RSC
          have HEC := hide ((unhide HEB).trans Ec)
          have HXC := hide ((unhide HXB).trans Ec)
          have CCC := hide (unhide CC wc (unhide HEC))
          clear ho CMB Ec HEB HXB
          go_wp2_with fail
          refine (unhide CCC).mono ?_
          rintro e wd ⟨⟨vd, rfl, ownd⟩, Ed⟩
          obtain ⟨CD, cdd, rfl, RD, -, -, -⟩ := row_of_own ownd
          have Ed2 := ((Ext.refl wc).alloc (.cells #[.slice A n c, .slice B m c2] 22)).trans Ed
          have HED := hide ((unhide HEC).trans Ed2)
          have HXD := hide ((unhide HXC).trans Ed2)
          have HTD := hide (unhide HCT wd CD (unhide HED) RD)
          clear ownd RD Ed Ed2 CCC HEC HXC
          go_wp2
          go_loopw [92] (fun i wz => ∃ x : Nat, x ≤ q ∧ i = .int .i64 x ∧ Hid (Ext wd wz)) (fun i _ => q - (intOf i).toNat)
          case atStart => exact ⟨0, Nat.zero_le _, rfl, hide (Ext.refl _)⟩
          case round =>
            obtain ⟨x, hx, rfl, HEZ⟩ := hrel
            obtain ⟨wz, hwz⟩ : ∃ wz, wz = wr := ⟨_, rfl⟩
            subst hwz
            by_cases hlt : x < q
            · obtain ⟨bC, oC, rfl, hbC, hcC⟩ := ((unhide HTD).keep (unhide HEZ)).hd (by omega)
              have hcx := hcC x hlt
              have HTWZ := hide ((unhide HTW5).keep ((unhide HXD).trans (unhide HEZ)))
              obtain ⟨bD, oD, rfl, hbD, hcD⟩ := (unhide HTWZ).hd (by omega)
              have hdx := hcD x hlt
              have R1 := ((unhide HTD).keep (unhide HEZ)).rowN hlt
              have R2 := (unhide HTWZ).rowN hlt
              have hlx : (LN x : Int) ≤ 9223372036854775807 := by have := (unhide HRR x hlt).1; omega
              have CE := hide (equal_u8 (RA x) (rx x) (LN x) (LN x) (CP x) (cx x) _ _ wz R1 R2 hlx hlx)
              have hdec : decide ((List.range (LN x)).map (MM x) = (List.range (LN x)).map (MM x)) = true := decide_eq_true rfl
              rw [hdec] at CE
              clear hcC hbC hcD hbD R1 R2 hdec
              generalize RA x = rax at *
              generalize rx x = rxx at *
              generalize CP x = cpx at *
              generalize cx x = cxx at *
              generalize LN x = lnx at *
              go_wp2_with fail
              refine (unhide CE).mono ?_
              rintro e we ⟨rfl, ke, rfl⟩
              go_wp2
              go_roundw
              case rel => exact ⟨x + 1, by omega, by go_num, hide ((unhide HEZ).drewN _)⟩
              case measure => simp [intOf]; omega
            · obtain rfl : q = x := by omega
              have HEF := hide ((unhide HED).trans (unhide HEZ))
              have CPF := hide (unhide CP_ wz (unhide HEF))
              go_wp2_with fail
              refine (unhide CPF).mono ?_
              rintro e wf ⟨ho, Ef⟩
              obtain ⟨vf, qf, rfl, hqf, hnf, hkf⟩ := ho.halves
              have HG := hide ((unhide HEF).trans Ef)
              have HRB := hide ((unhide HR5).keep (((unhide HXD).trans (unhide HEZ)).trans Ef))
              have hnvI : (nv : Int) ≤ 9223372036854775807 := by have := (unhide HVB).2.1; have := (unhide HVB).1; omega
              have CE := hide (equal_u8 V A5 nv nv cv c5 lv lv wf ((unhide HV).keep (unhide HG)) (unhide HRB) hnvI hnvI)
              have hdec : decide (lv = lv) = true := decide_eq_true rfl
              rw [hdec] at CE
              have hqq : qa = qf := by rw [unhide HQA, hqf]
              subst hqq
              have HNF := hide hnf
              have HKF := hide hkf
              clear ho hnf hkf hdec hqf Ef CPF
              go_wp2_with fail
              refine (unhide CE).mono ?_
              rintro e wg ⟨rfl, kg, rfl⟩
              have HGG := hide ((unhide HG).drewN kg)
              by_cases hf0 : qa = 0
              · obtain ⟨mf, hKm, h1, h2, h3, MF⟩ := unhide HKF hf0
                obtain ⟨F, cf, rfl, RF, hcf1, hcf2, -⟩ := (MF.keep ((Ext.refl wf).drewN kg)).open_
                subst hf0
                have hL := unhide HVL
                have RF2 : Row (wf.drewN kg) F nv 1 (nats .u8 lv) := by
                  have := RF.take h2
                  rw [Nat.mul_one, nats_take] at this
                  have e := Wm.putL_take (unhide HV8) (n := mf) (by omega) (by omega)
                  rw [hL] at e
                  rw [e] at this
                  exact this
                have CE2 := hide (equal_u8 F V nv nv cf cv lv lv (wf.drewN kg) RF2 ((unhide HV).keep (unhide HGG)) hnvI hnvI)
                rw [show decide (lv = lv) = true from decide_eq_true rfl] at CE2
                have hmn1 : ¬ (nv : Int) > (mf : Int) := by omega
                have hmn2 : ¬ (mf : Int) < (nv : Int) := by omega
                have hmn3 : (nv : Int) ≤ (mf : Int) := by omega
                have hmcf : nv ≤ cf := by omega
                have hcf63 : cf ≤ 9223372036854775807 := by unfold maxLen at hcf2; exact hcf2
                clear RF MF hcf1 hcf2 RF2 HKF HNF hKm hL
                generalize wf.drewN kg = wg at *
                by_cases hnm : nv = mf
                · subst hnm
                  clear hmn1 hmn2 hmn3
                  go_wp2_with (go_at_call 13; refine (unhide CE2).mono ?_; rintro e wh ⟨rfl, kh, rfl⟩)
                  all_goals
                    go_ret
                    exact ⟨rfl, (unhide HGG).drewN _⟩
                · have hlt1 : (nv : Int) < (mf : Int) := by omega
                  go_wp2_with (go_at_call 13; refine (unhide CE2).mono ?_; rintro e wh ⟨rfl, kh, rfl⟩)
                  all_goals
                    go_ret
                    exact ⟨rfl, (unhide HGG).drewN _⟩
              · have hfB : (qa != 0) = true := by rw [bne_iff_ne]; exact hf0
                go_wp2
                go_ret
                exact ⟨rfl, unhide HGG⟩
--}
end Go.Proofs.Ytepkiicekcglhaa
