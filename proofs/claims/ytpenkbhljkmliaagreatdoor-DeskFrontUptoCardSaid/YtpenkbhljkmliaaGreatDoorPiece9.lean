/-
  The contract of piece.Join.
-/
import Derived.Test.YtpenkbhljkmliaaGreatDoorPiece8
set_option linter.unusedVariables false
set_option linter.unusedSimpArgs false
namespace Go.Proofs.YtpenkbhljkmliaaGreatDoor
open Go.RowKit Go.BigFrame

theorem max2_ite (x y : Int) : (if x < y then y else x) = max x y := by
  by_cases h : x < y
  · rw [if_pos h]; omega
  · rw [if_neg h]; omega
theorem wpList_max2 {P : Program} {ops : Array Oper} {rest : List Oper} {o : Oper} {act : Act} {w : World} {Q : Exit → Act → World → Prop} (hgd : o.guard = none) (x1 x2 : Operand) (ts : Array TypeId)
    (ho : o.op = .call { callee := .builtin .max, args := #[x1, x2], argTypes := ts }) (a b : Int) (h1 : act.eval x1 = .int .i64 a) (h2 : act.eval x2 = .int .i64 b) (m : Int) (hm : m = max a b)
    (h : wpList P ops Q rest (act.put o.dst (.int .i64 m)) w) : wpList P ops Q (o :: rest) act w := by
  refine wpList_plain hgd fun K hK => ?_
  have hr : (Builtin.max_ ts o.type #[.int .i64 a, .int .i64 b]).run P w = .ok (.int .i64 m) w := by
    rw [hm, ← max2_ite]; rfl
  unfold Oper.wp execOp
  simp only [ho, resolve, invoke, builtin, Sem.run_bind, Sem.run_pure, Result.andThen_ok, List.map_toArray, List.map_cons, List.map_nil, h1, h2, hr]
  exact hK _ _ h
theorem boolR : EInfo Tryz.prog 179 4 (.bool false) 1 1 := EInfo.mk_ Tryz.underlying179 (by kernel_rfl) rfl (by omega)

theorem Made.cellS {w : World} {base e : TypeId} {g n c sz : Nat} {xs : List Value} (h : Made w base e sz (.slice (some ⟨g, 0, none⟩) n c) n xs) {k : Nat} (hk : k < n * sz) : w.cell? ⟨g, k, none⟩ = some (xs.getD k undef) := by
  rcases h.2 with ⟨h2, -⟩ | ⟨g', c', cur, h3, h4, h5, h6, h7, h8, h9⟩
  · cases h2
  · injection h3 with h3 _ h3'
    simp only [Option.some.injEq, Addr.mk.injEq, and_true] at h3
    subst h3; subst h3'
    have hk2 : k < cur.size := Nat.lt_of_lt_of_le hk (Nat.le_trans (Nat.mul_le_mul_right sz h6) h8)
    rw [← h9, List.getD_eq_getElem?_getD, List.getElem?_take_of_lt hk, Array.getElem?_toList]
    simp [World.cell?, h5, hk2]
theorem cel_half (L : List ByteArray) (k m i : Nat) {n j : Nat} (h : j < n) : (cls (celP L k m i n j)).set (j * 2) (.bool true) = cls ((celP L k m i n j).set j (true, 0)) := by
  rw [cls_set _ _ _ (by rw [celP_length]; exact h)]
  have h2 := (cls_get (celP L k m i n j) j (by rw [celP_length]; exact h)).2
  have hg : (celP L k m i n j).getD j (false, 0) = (false, 0) := by
    unfold celP
    rw [List.getD_eq_getElem?_getD, List.getElem?_map, List.getElem?_range h]
    simp
  rw [hg] at h2
  apply List.ext_getElem?
  intro t
  by_cases c : t = j * 2 + 1
  · subst c
    rw [List.getElem?_set_ne (by omega), h2, List.getElem?_set_self]
    rw [List.length_set]
    exact (List.getElem?_eq_some_iff.1 h2).1
  · rw [List.getElem?_set_ne (l := (cls (celP L k m i n j)).set (j * 2) (.bool true)) (fun e => c e.symm)]
theorem len_le (l : Nat) {k : Nat} (hk : 1 ≤ k) : l ≤ k * sz l k := by
  unfold sz
  have h := Nat.div_add_mod (l + k - 1) k
  have h2 := Nat.mod_lt (l + k - 1) (show 0 < k by omega)
  omega
theorem sz_le {l k : Nat} (hk : 1 ≤ k) : sz l k ≤ l := by
  unfold sz
  rcases Nat.eq_zero_or_pos l with h | h
  · subst h; rw [Nat.div_eq_of_lt (by omega)]; omega
  · refine Nat.div_le_of_le_mul ?_
    obtain ⟨a, rfl⟩ : ∃ a, k = a + 1 := ⟨k - 1, by omega⟩
    obtain ⟨b, rfl⟩ : ∃ b, l = b + 1 := ⟨l - 1, by omega⟩
    have : (a + 1) * (b + 1) = a * b + a + b + 1 := by rw [Nat.mul_add, Nat.add_mul]; omega
    omega
theorem badJ_mono {L : List ByteArray} {k m : Nat} : ∀ {n x : Nat}, x ≤ n → badJ L k m x = true → badJ L k m n = true
  | 0, x, h, hx => by obtain rfl : x = 0 := by omega
                      exact hx
  | n + 1, x, h, hx => by
    by_cases e : x = n + 1
    · subst e; exact hx
    · simp only [badJ, badJ_mono (show x ≤ n by omega) hx, Bool.true_or]
theorem txtP_none (L : List ByteArray) (k n i j : Nat) : txtP L k 0 n i j = [] := by simp [txtP]

/-- What Join returns. -/
def joinOut (L : List ByteArray) (k : Int) : Value := .tuple #[.string (if joinErr L k = 0 then strN (joinText L k.toNat) else ByteArray.empty), .int .i64 (joinErr L k)]
theorem joinOut_bad {L : List ByteArray} {k r : Int} (h : joinErr L k = r) (hr : r ≠ 0) : joinOut L k = .tuple #[.string ByteArray.empty, .int .i64 r] := by
  unfold joinOut
  rw [h, if_neg hr]
theorem joinOut_good {L : List ByteArray} {k : Int} (h : joinErr L k = 0) : joinOut L k = .tuple #[.string (strN (joinText L k.toNat)), .int .i64 0] := by
  unfold joinOut
  rw [h, if_pos rfl]

set_option maxRecDepth 100000 in
set_option maxHeartbeats 16000000 in
theorem Join_ok (A : Option Addr) (n c k : Nat) (L : List ByteArray) (w : World) (R : Row w A n 1 (strs L)) (hss : ∀ s ∈ L, (s.size : Int) ≤ 9223372036854775807) (h1 : 1 ≤ k) (hkn : k ≤ n) (hn : n ≤ 10) :
    Calls Tryz.prog 106 #[.slice A n c, .int .i64 (k : Int)] w fun e w' => e = .returned (joinOut L k) ∧ Ext w w' := by
  have HR := hide R
  have hlen := R.strN
  have HLN := hide hlen
  have hE := hide (show joinErr L (k : Int) = if mixJ L k n = true then 3 else if Wm.cntR (usab L k) n < k then 9 else if badJ L k (sz (lenN L k) k) (max (sz (lenN L k) k) 1) = true then 8 else 0 from by
    unfold joinErr
    rw [if_neg (by omega), Int.toNat_natCast, hlen])
  have CRI := hide (right_any (k : Int) (n : Int) w)
  rw [show decide (1 ≤ (k : Int) ∧ (k : Int) ≤ (n : Int) ∧ (n : Int) ≤ 10) = true from decide_eq_true (by omega)] at CRI
  have CCH := hide (fun (j : Nat) (hj : j < n) (w : World) => Check_any (L.getD j ByteArray.empty) (k : Int) w (hss _ (getD_mem L _ (by omega))))
  have HSS := hide hss
  have hmb : ∀ w : World, (Instr.makeSlice 179 (.int .i64 (n : Int)) (.int .i64 (n : Int))).run Tryz.prog w = .ok (.slice (some ⟨w.heap.size, 0, none⟩) n n) (w.alloc (.cells (madeCells #[.bool false] n) 4)) := fun w => by
    have := make_run boolR n n (Nat.le_refl _) (by omega) (by omega) w
    rw [Nat.mul_one] at this
    exact this
  have hmc : ∀ w : World, (Instr.makeSlice 181 (.int .i64 (n : Int)) (.int .i64 (n : Int))).run Tryz.prog w = .ok (.slice (some ⟨w.heap.size, 0, none⟩) n n) (w.alloc (.cells (madeCells #[.bool false, .int .u8 0] (n * 2)) 183)) := fun w => make_run cellR n n (Nat.le_refl _) (by omega) (by omega) w
  have M0 : Made (w.alloc (.cells (madeCells #[.bool false] n) 4)) w.heap.size 4 1 (.slice (some ⟨w.heap.size, 0, none⟩) n n) n (bls (usP L k n 0)) := by
    rw [usP_zero, show bls (List.replicate n false) = List.replicate n (Value.bool false) from by simp [bls]]
    exact Made.make (.bool false) n (Nat.le_refl _) (by omega)
  have HM0 := hide M0
  have E0 : Ext w (w.alloc (.cells (madeCells #[.bool false] n) 4)) := (Ext.refl w).alloc _
  have HE0 := hide E0
  clear R hss M0 E0 hlen
  go_enter Tryz.func106, Tryz.ntmps106
  go_wp2_with fail
  refine (unhide CRI).mono ?_
  rintro e w1 ⟨rfl, rfl⟩
  go_wp2
  go_loopw [4, 5, 7, 29] (fun r4 r5 ln i wr => ∃ x : Nat, x ≤ n ∧ i = .int .i64 x ∧ r4 = .string ByteArray.empty ∧ r5 = .int .i64 0 ∧ (∃ l : Int, Hid (l = lenJ L k x) ∧ ln = .int .i64 l) ∧ Hid (mixJ L k x = false) ∧ Hid (Made wr w1.heap.size 4 1 (.slice (some ⟨w1.heap.size, 0, none⟩) n n) n (bls (usP L k n x))) ∧ Hid (Ext w1 wr)) (fun _ _ _ i _ => n - (intOf i).toNat)
  case atStart => exact ⟨0, Nat.zero_le _, rfl, rfl, rfl, ⟨-1, hide rfl, rfl⟩, hide rfl, HM0, HE0⟩
  case round =>
    obtain ⟨x, hx, rfl, rfl, rfl, ⟨ln, HLE, rfl⟩, HMX, HMM, HEX⟩ := hrel
    by_cases hlt : x < n
    ·
      --{
      obtain ⟨b, o, rfl, hbl, hcs⟩ := ((unhide HR).keep (unhide HEX)).str hlt
      have CC := hide (unhide CCH x hlt wr)
      have hgood := hide (fun h => usab_good (L := L) (j := x) h1 (by omega) h)
      have hln1 : -1 ≤ ln := by rw [unhide HLE]; exact lenJ_lo L k x
      have hln2 : ln ≤ 60 := by rw [unhide HLE]; exact lenJ_hi h1 (by omega) x
      obtain ⟨s, hs⟩ : ∃ s, s = L.getD x ByteArray.empty := ⟨_, rfl⟩
      rw [← hs] at hcs CC hgood
      have HS := hide hs
      obtain ⟨r, hr⟩ : ∃ r, r = chkErr s (k : Int) := ⟨_, rfl⟩
      rw [← hr] at CC
      have HRR := hide hr
      have hub : usab L k x = decide (r = 0) := by unfold usab; rw [← hs, ← hr]
      clear hs hr
      go_wp2_with fail
      refine (unhide CC).mono ?_
      rintro e w2 ⟨rfl, E2⟩
      have HM2 := hide ((unhide HMM).keep E2)
      have HE2 := hide ((unhide HEX).trans E2)
      have hc2 := (unhide HM2).cell hlt
      have hf2 := (unhide HM2).frozen x
      clear E2 CC
      by_cases hr0 : r = 0
      · have hu : usab L k x = true := by rw [hub, hr0]; rfl
        subst hr0
        have HM3 := hide ((unhide HM2).set (j := x) (by omega) (.bool true))
        rw [bls_set, ← hu, usP_set L k hlt, hu] at HM3
        have hcr : (w2.setCell ⟨w1.heap.size, x, none⟩ (.bool true)).cell? ⟨w1.heap.size, x, none⟩ = some (.bool true) := World.cell?_setCell_same' _ _ _ (by rw [hc2]; rfl)
        have HE3 := hide (show Ext w1 (w2.setCell ⟨w1.heap.size, x, none⟩ (.bool true)) from (unhide HE2).setCell (by first | (simp; done) | (simp; omega)) _)
        obtain ⟨hg5, -, hg60, -⟩ := unhide hgood hu
        have hb0 := sby_get s 0 (by omega)
        have h0s : 0 < s.size := by omega
        have h0I : (0 : Int) < (s.size : Int) := by omega
        obtain ⟨b0, hbb⟩ : ∃ b0, b0 = sby s 0 := ⟨_, rfl⟩
        rw [← hbb] at hb0 hg60
        have HBB := hide hbb
        clear hbb
        have HLX := hide (show lenJ L k (x + 1) = (b0 : Int) from by
          unfold lenJ; rw [if_pos hu, ← unhide HS, ← unhide HBB])
        have hmx : mixJ L k (x + 1) = (decide (0 ≤ ln) && decide ((b0 : Int) ≠ ln)) := by
          simp only [mixJ, unhide HMX, hu, Bool.false_or, Bool.true_and]
          rw [← unhide HS, ← unhide HBB, ← unhide HLE]
        have HMXX := hide hmx
        have HU := hide hu
        clear hub hmx hu
        by_cases hl0 : 0 ≤ ln
        · by_cases hbl : (b0 : Int) = ln
          · have HMN := hide (show mixJ L k (x + 1) = false from by rw [unhide HMXX]; simp [hbl])
            have hbB : ((b0 : Int) != ln) = false := by rw [hbl]; simp
            go_wp2
            go_roundw
            case rel => exact ⟨x + 1, by omega, by go_num, rfl, rfl, ⟨ln, hide ((unhide HLX).trans hbl).symm, rfl⟩, HMN, HM3, HE3⟩
            case measure => simp [intOf]; omega
          · have HMN := hide (show mixJ L k (x + 1) = true from by rw [unhide HMXX]; simp [hl0, hbl])
            have hbB : ((b0 : Int) != ln) = true := by rw [bne_iff_ne]; exact hbl
            have HJ := hide (joinOut_bad (show joinErr L (k : Int) = 3 from by rw [unhide hE, if_pos (mixJ_mono (by omega) (unhide HMN))]) (by omega))
            go_wp2
            go_ret2
            refine ⟨?_, unhide HE3⟩
            rw [unhide HJ]; rfl
        · have HMN := hide (show mixJ L k (x + 1) = false from by rw [unhide HMXX]; simp [hl0])
          go_wp2
          go_roundw
          case rel => exact ⟨x + 1, by omega, by go_num, rfl, rfl, ⟨_, hide (unhide HLX).symm, rfl⟩, HMN, HM3, HE3⟩
          case measure => simp [intOf]; omega
      · have hu : usab L k x = false := by rw [hub]; exact decide_eq_false hr0
        have hrB : (r == 0) = false := by rw [beq_eq_false_iff_ne]; exact hr0
        have HM3 := hide ((unhide HM2).set (j := x) (by omega) (.bool false))
        rw [bls_set, ← hu, usP_set L k hlt, hu] at HM3
        have hcr : (w2.setCell ⟨w1.heap.size, x, none⟩ (.bool false)).cell? ⟨w1.heap.size, x, none⟩ = some (.bool false) := World.cell?_setCell_same' _ _ _ (by rw [hc2]; rfl)
        have HE3 := hide (show Ext w1 (w2.setCell ⟨w1.heap.size, x, none⟩ (.bool false)) from (unhide HE2).setCell (by first | (simp; done) | (simp; omega)) _)
        have HLX := hide (show lenJ L k (x + 1) = ln from by
          unfold lenJ; rw [if_neg (by rw [hu]; decide), ← unhide HLE])
        have HMN := hide (show mixJ L k (x + 1) = false from by simp only [mixJ, unhide HMX, hu, Bool.false_or, Bool.false_and])
        clear hub hu
        go_wp2
        go_roundw
        case rel => exact ⟨x + 1, by omega, by go_num, rfl, rfl, ⟨_, hide (unhide HLX).symm, rfl⟩, HMN, HM3, HE3⟩
        case measure => simp [intOf]; omega
      --}
    · obtain rfl : n = x := by omega
      obtain ⟨len, hle⟩ : ∃ len : Nat, len = lenN L k := ⟨_, rfl⟩
      have hln1 := lenJ_lo L k n
      have hln2 := lenJ_hi (L := L) h1 (by omega) n
      have hmax : (len : Int) = max ln 0 := by
        rw [hle]; unfold lenN; rw [unhide HLN, ← unhide HLE]; omega
      have hl60 : len ≤ 60 := by rw [unhide HLE] at hmax; omega
      have hlo : -9223372036854775808 ≤ ln ∧ ln ≤ 9223372036854775807 := by rw [unhide HLE]; omega
      obtain ⟨m, hm⟩ : ∃ m, m = sz len k := ⟨_, rfl⟩
      have CSZ := hide (size_any len k wr (by omega) h1 (by omega))
      have hmd : (len + k - 1) / k = m := hm.symm
      rw [hmd] at CSZ
      have hm60 : m ≤ 60 := by rw [hm]; exact Nat.le_trans (sz_le h1) hl60
      have hmz := hide (show m = 0 → len = 0 from fun h => by have := len_le len h1; rw [← hm, h] at this; omega)
      obtain ⟨p, hp⟩ : ∃ p, p = k * m := ⟨_, rfl⟩
      have hpI : (k : Int) * (m : Int) = (p : Int) := by rw [hp, Int.natCast_mul]
      have hp600 : p ≤ 600 := by rw [hp]; exact Nat.le_trans (Nat.mul_le_mul (show k ≤ 10 by omega) hm60) (by omega)
      have hlp : len ≤ p := by rw [hp, hm]; exact len_le len h1
      have HPP := hide hp
      have hmt : ∀ w : World, (Instr.makeSlice 106 (.int .i64 (p : Int)) (.int .i64 (p : Int))).run Tryz.prog w = .ok (.slice (some ⟨w.heap.size, 0, none⟩) p p) (w.alloc (.cells (madeCells #[.int .u8 0] p) 5)) := fun w => by
        have := make_run byteR p p (Nat.le_refl _) (by omega) (by omega) w
        rw [Nat.mul_one] at this
        exact this
      have hEE := hide (show joinErr L (k : Int) = if Wm.cntR (usab L k) n < k then 9 else if badJ L k m (max m 1) = true then 8 else 0 from by
        rw [unhide hE, unhide HMX, if_neg (by decide), ← hle, ← hm])
      have HGO := hide (fun (t : Nat) (ht : t < n) (hu : usab L k t = true) => show (L.getD t ByteArray.empty).size = 5 + m from by
        have h2 := usab_good h1 (by omega) hu
        have h3 := lenJ_of (unhide HMX) t ht hu
        rw [← unhide HLE] at h3
        have h4 : sby (L.getD t ByteArray.empty) 0 = len := by omega
        rw [h2.2.2.2, h4, ← hm])
      have HJT := hide (show joinText L k = (List.range len).map (txtJ L k m n) from by unfold joinText; rw [← hle, ← hm, unhide HLN])
      obtain ⟨mm, hmm⟩ : ∃ mm : Nat, mm = max m 1 := ⟨_, rfl⟩
      have hmmI : (mm : Int) = max (m : Int) 1 := by omega
      rw [← hmm] at hEE
      have hmm1 : mm ≤ 60 := by omega
      have hmm2 := hide (show ∀ x, x < mm → 0 < m → x < m from fun x h h2 => by omega)
      have hmm3 := hide (show m ≤ mm from by omega)
      obtain ⟨w3, hw3⟩ : ∃ w3, w3 = wr := ⟨_, rfl⟩
      subst hw3
      have M3 : Made (w3.alloc (.cells (madeCells #[.int .u8 0] p) 5)) w3.heap.size 5 1 (.slice (some ⟨w3.heap.size, 0, none⟩) p p) p (nats .u8 (txtP L k m n 0 0)) := by
        rw [txtP_zero, ← hp, ← nats_replicate]
        exact Made.make (.int .u8 0) p (Nat.le_refl _) (by omega)
      have HM3 := hide M3
      have HE3 := hide (show Ext w3 (w3.alloc (.cells (madeCells #[.int .u8 0] p) 5)) from (Ext.refl w3).alloc _)
      have HMAX := hide hmax
      have HMMI := hide hmmI
      clear hmax hmmI
      clear hle hm hmd hp hmm M3 hln1 hln2 hE HM0 HE0
      go_wp2_with (refine wpList_max2 (o := ⟨some 60, _, _, _, _, _⟩) rfl _ _ _ (by rfl) ln 0 (by rfl) (by rfl) (len : Int) (unhide HMAX) ?_)
      go_wp2_with fail
      refine (unhide CSZ).mono ?_
      rintro e w3 ⟨rfl, rfl⟩
      clear CSZ
      go_wp2_with (refine wpList_max2 (o := ⟨some 68, _, _, _, _, _⟩) rfl _ _ _ (by rfl) (m : Int) 1 (by rfl) (by rfl) (mm : Int) (unhide HMMI) ?_)
      go_wp2
      go_loopw [4, 5, 69] (fun r4 r5 i wz => ∃ x : Nat, x ≤ mm ∧ i = .int .i64 x ∧ r4 = .string ByteArray.empty ∧ r5 = .int .i64 0 ∧ Hid (badJ L k m x = false) ∧ Hid (x ≠ 0 → k ≤ Wm.cntR (usab L k) n) ∧ Hid (Made wz w3.heap.size 5 1 (.slice (some ⟨w3.heap.size, 0, none⟩) p p) p (nats .u8 (txtP L k m n x 0))) ∧ Hid (Ext w3 wz)) (fun _ _ i _ => mm - (intOf i).toNat)
      case atStart => exact ⟨0, Nat.zero_le _, rfl, rfl, rfl, hide rfl, hide (fun h => absurd rfl h), HM3, HE3⟩
      case round =>
        obtain ⟨x, hx, rfl, rfl, rfl, HBJ, HCN, HTX, HEZ⟩ := hrel
        by_cases hlt : x < mm
        · obtain ⟨wa, hwa⟩ : ∃ wa, wa = wr := ⟨_, rfl⟩
          subst hwa
          have MC : Made (wa.alloc (.cells (madeCells #[.bool false, .int .u8 0] (n * 2)) 183)) wa.heap.size 183 2 (.slice (some ⟨wa.heap.size, 0, none⟩) n n) n (cls (celP L k m x n 0)) := by
            rw [celP_zero, cls_replicate]
            exact ⟨by simp [madeCells], .inr ⟨wa.heap.size, n, madeCells #[.bool false, .int .u8 0] (n * 2), rfl, Nat.le_refl _, by rw [← World.alloc_eq]; simp, Nat.le_refl _, by unfold maxLen; omega, by rw [made_size]; omega, by rw [List.take_of_length_le (by simp [madeCells])]⟩⟩
          have HMC := hide MC
          have HEC := hide (show Ext wa (wa.alloc (.cells (madeCells #[.bool false, .int .u8 0] (n * 2)) 183)) from (Ext.refl wa).alloc _)
          clear MC
          go_wp2
          go_loopw [77] (fun i wq => ∃ j : Nat, j ≤ n ∧ i = .int .i64 j ∧ Hid (Made wq wa.heap.size 183 2 (.slice (some ⟨wa.heap.size, 0, none⟩) n n) n (cls (celP L k m x n j))) ∧ Hid (Ext wa wq)) (fun i _ => n - (intOf i).toNat)
          case atStart => exact ⟨0, Nat.zero_le _, rfl, HMC, HEC⟩
          case round =>
            obtain ⟨j, hj, rfl, HCJ, HEQ⟩ := hrel
            by_cases hjn : j < n
            · have hEall := ((unhide HEX).trans (unhide HEZ)).trans (unhide HEQ)
              obtain ⟨b, o, rfl, hbl, hcs⟩ := ((unhide HR).keep hEall).str hjn
              have hu := ((unhide HMM).keep ((unhide HEZ).trans (unhide HEQ))).bl hjn
              have hc1 := (unhide HCJ).cellS (k := j * 2) (by omega)
              have hc2 := (unhide HCJ).cellS (k := j * 2 + 1) (by omega)
              have hf := fun t => (unhide HCJ).frozen t
              have HG := hide (unhide HGO j hjn)
              obtain ⟨s, hs⟩ : ∃ s, s = L.getD j ByteArray.empty := ⟨_, rfl⟩
              rw [← hs] at hcs HG
              have HS := hide hs
              obtain ⟨u, huu⟩ : ∃ u, u = usab L k j := ⟨_, rfl⟩
              rw [← huu] at hu HG
              have HU := hide huu
              clear hEall hs huu
              cases u with
              | true =>
                have HS1 := hide ((unhide HCJ).set (j := j * 2) (by omega) (.bool true))
                have HE1 := hide (show Ext wa (wr.setCell ⟨wa.heap.size, j * 2, none⟩ (.bool true)) from (unhide HEQ).setCell (by first | (simp; done) | (simp; omega)) _)
                by_cases hm0 : m = 0
                · have hcj : cellJ L k m x j = (true, 0) := by
                    unfold cellJ
                    rw [← unhide HU, if_neg (by omega)]
                  rw [cel_half L k m x hjn, ← hcj, celP_set L k m x hjn] at HS1
                  have hm0I : ¬ (0 : Int) < (m : Int) := by omega
                  clear hcj hc2
                  go_wp2
                  go_roundw
                  case rel => exact ⟨j + 1, by omega, by go_num, HS1, HE1⟩
                  case measure => simp [intOf]; omega
                · have hm0I : (0 : Int) < (m : Int) := by omega
                  have hxm := unhide hmm2 x hlt (by omega)
                  have hsz := unhide HG rfl
                  obtain ⟨q, hq⟩ : ∃ q, q = 1 + x := ⟨_, rfl⟩
                  have hqI : (1 : Int) + (x : Int) = (q : Int) := by omega
                  have hqs : q < s.size := by omega
                  have hqs2 : (q : Int) < (s.size : Int) := by omega
                  have hq0 : (0 : Int) ≤ (q : Int) := by omega
                  have hb := sby_get s q hqs
                  obtain ⟨y, hy⟩ : ∃ y, y = sby s q := ⟨_, rfl⟩
                  have hyl : y < 256 := by rw [hy]; exact sby_lt _ _
                  have hcj : cellJ L k m x j = (true, y) := by
                    unfold cellJ
                    rw [← unhide HU, if_pos ⟨rfl, by omega⟩, ← unhide HS, hy, hq]
                  rw [← hy] at hb
                  have hwy : IntKind.u8.wrap (y : Int) = (y : Int) := IntWalk.u8_in _ (by omega)
                  have HS2 := hide ((unhide HS1).set (j := j * 2 + 1) (by omega) (.int .u8 (y : Int)))
                  rw [← cls_set (celP L k m x n j) j (true, y) (by rw [celP_length]; exact hjn), ← hcj, celP_set L k m x hjn] at HS2
                  have HE2 := hide (show Ext wa ((wr.setCell ⟨wa.heap.size, j * 2, none⟩ (.bool true)).setCell ⟨wa.heap.size, j * 2 + 1, none⟩ (.int .u8 (y : Int))) from (unhide HE1).setCell (by first | (simp; done) | (simp; omega)) _)
                  have hc3 := (unhide HS1).cellS (k := j * 2 + 1) (by omega)
                  have hf3 := (unhide HS1).frozen (j * 2 + 1)
                  clear hcj hy hq hsz hxm
                  go_wp2
                  go_roundw
                  case rel => exact ⟨j + 1, by omega, by go_num, HS2, HE2⟩
                  case measure => simp [intOf]; omega
              | false =>
                have hcj : cellJ L k m x j = (false, 0) := by
                  unfold cellJ
                  rw [← unhide HU, if_neg (by simp)]
                rw [← celP_same L hcj] at HCJ
                clear hcj hc1 hc2 hf
                go_wp2
                go_roundw
                case rel => exact ⟨j + 1, by omega, by go_num, HCJ, HEQ⟩
                case measure => simp [intOf]; omega
            · obtain rfl : n = j := by omega
              rw [celP_full] at HCJ
              obtain ⟨A1, c1, hA1, RC, -, -, -⟩ := (unhide HCJ).open_
              injection hA1 with hA1 _ hc1
              subst hA1; subst hc1
              have CM := hide (RMend_ok (some ⟨wa.heap.size, 0, none⟩) k n n (celJ L k m x n) wr RC (celJ_lt L k m x n) h1 hkn (by omega))
              have HE4 := hide ((unhide HEZ).trans (unhide HEQ))
              have hszz := (unhide HE4).size
              have hcnt := celJ_cnt L k m x n
              have HT4 := hide ((unhide HTX).keep (unhide HEQ))
              clear RC HCJ HMC HEC
              go_wp2_with fail
              refine (unhide CM).mono ?_
              rintro e w5 ⟨ho, E5⟩
              have HE5 := hide ((unhide HE4).trans E5)
              have HT5 := hide ((unhide HT4).keep E5)
              unfold MendOut at ho
              rw [hcnt] at ho
              have HX1 := hide (show badJ L k m (x + 1) = Wm.mendN (celJ L k m x n) k n from by
                simp only [badJ, unhide HBJ, Bool.false_or, unhide HLN])
              clear hcnt E5 CM
              rcases ho with ⟨hc, rfl⟩ | ⟨hc, hb, rfl⟩ | ⟨hc, hb, v, rfl, M5⟩
              · have HJ := hide (joinOut_bad (show joinErr L (k : Int) = 9 from by rw [unhide hEE, if_pos hc]) (by omega))
                clear hc
                go_wp2
                go_ret2
                refine ⟨?_, (unhide HEX).trans (unhide HE5)⟩
                rw [unhide HJ]; rfl
              · have HJ := hide (joinOut_bad (show joinErr L (k : Int) = 8 from by rw [unhide hEE, if_neg (by omega), if_pos (badJ_mono (show x + 1 ≤ mm by omega) (by rw [unhide HX1]; exact hb))]) (by omega))
                clear hc hb
                go_wp2
                go_ret2
                refine ⟨?_, (unhide HEX).trans (unhide HE5)⟩
                rw [unhide HJ]; rfl
              · have HBN := hide (show badJ L k m (x + 1) = false from by rw [unhide HX1]; exact hb)
                have HCC := hide hc
                obtain ⟨B, cb, rfl, RB, -, -, hBb⟩ := M5.open_
                obtain ⟨b, o, rfl, hbl, hcb⟩ := RB.2 (by omega)
                have hbb := (hBb b o rfl).1
                have hbg : b ≠ w3.heap.size := by have := (unhide HTX).lt w3.heap.size rfl; have := (unhide HEQ).size; omega
                obtain ⟨dl, hdl⟩ : ∃ dl, dl = Wm.mendL (celJ L k m x n) k := ⟨_, rfl⟩
                rw [← hdl] at hcb
                have hdn : dl.length = n := by rw [hdl]; unfold Wm.mendL; rw [Wm.rowL_length, celJ_length]
                have hcells : ∀ t, t < n → w5.cell? ⟨b, o + t, none⟩ = some (.int .u8 ((dl.getD t 0 : Nat) : Int)) := fun t ht => by
                  rw [hcb t (by omega), nats_get _ _ _ (by rw [hdn]; exact ht)]
                have HC5 := hide hcells
                have HDL := hide hdl
                clear hcells hcb hBb RB M5 hc hb hdl hdn hbb hszz HX1
                go_wp2
                go_loopw [111] (fun i wy => ∃ j : Nat, j ≤ k ∧ i = .int .i64 j ∧ Hid (Made wy w3.heap.size 5 1 (.slice (some ⟨w3.heap.size, 0, none⟩) p p) p (nats .u8 (txtP L k m n x j))) ∧ Hid (∀ t, t < n → wy.cell? ⟨b, o + t, none⟩ = some (.int .u8 ((dl.getD t 0 : Nat) : Int))) ∧ Hid (Ext w3 wy)) (fun i _ => k - (intOf i).toNat)
                case atStart => exact ⟨0, Nat.zero_le _, rfl, HT5, HC5, HE5⟩
                case round =>
                  obtain ⟨j, hj, rfl, HTJ, HCJ, HEJ⟩ := hrel
                  by_cases hjk : j < k
                  · by_cases hm0 : m = 0
                    · have hm0I : ¬ (0 : Int) < (m : Int) := by omega
                      have HTT := hide (show txtP L k m n x j = txtP L k m n x (j + 1) from by rw [hm0, txtP_none, txtP_none])
                      rw [unhide HTT] at HTJ
                      go_wp2
                      go_roundw
                      case rel => exact ⟨j + 1, by omega, by go_num, HTJ, HCJ, HEJ⟩
                      case measure => simp [intOf]; omega
                    · have hm0I : (0 : Int) < (m : Int) := by omega
                      have hxm := unhide hmm2 x hlt (by omega)
                      obtain ⟨a, ha⟩ : ∃ a, a = j * m := ⟨_, rfl⟩
                      have haI : (j : Int) * (m : Int) = (a : Int) := by rw [ha, Int.natCast_mul]
                      obtain ⟨q, hq⟩ : ∃ q, q = a + x := ⟨_, rfl⟩
                      have hqI : (a : Int) + (x : Int) = (q : Int) := by omega
                      have hqp : q < p := by
                        have h1 : (j + 1) * m ≤ k * m := Nat.mul_le_mul_right m (by omega)
                        rw [Nat.add_mul, Nat.one_mul, ← ha, ← unhide HPP] at h1
                        omega
                      have hap : a ≤ 600 := by omega
                      have hqpI : (q : Int) < (p : Int) := by omega
                      have hq0 : (0 : Int) ≤ (q : Int) := by omega
                      have HQ := hide (show q = j * m + x from by rw [hq, ha])
                      have hcy := unhide HCJ j (by omega)
                      obtain ⟨y, hy⟩ : ∃ y, y = dl.getD j 0 := ⟨_, rfl⟩
                      rw [← hy] at hcy
                      have HY := hide hy
                      have hct := (unhide HTJ).cell hqp
                      have hft := (unhide HTJ).frozen q
                      have HTT := hide ((unhide HTJ).set (j := q) (by omega) (.int .u8 (y : Int)))
                      rw [nats_set, unhide HY, unhide HDL, unhide HQ, txtP_set L hxm hjk, ← unhide HQ, ← unhide HDL, ← unhide HY] at HTT
                      have HEN := hide (show Ext w3 (wr.setCell ⟨w3.heap.size, q, none⟩ (.int .u8 (y : Int))) from (unhide HEJ).setCell (by first | (simp; done) | (simp; omega)) _)
                      have HCN2 := hide (show ∀ t, t < n → (wr.setCell ⟨w3.heap.size, q, none⟩ (.int .u8 (y : Int))).cell? ⟨b, o + t, none⟩ = some (.int .u8 ((dl.getD t 0 : Nat) : Int)) from fun t ht => by
                        rw [World.cell?_setCell_other _ _ _ _ (by intro e; injection e with e; exact hbg e.symm)]
                        exact unhide HCJ t ht)
                      clear ha hq hy
                      go_wp2
                      go_roundw
                      case rel => exact ⟨j + 1, by omega, by go_num, HTT, HCN2, HEN⟩
                      case measure => simp [intOf]; omega
                  · obtain rfl : k = j := by omega
                    rw [txtP_next] at HTJ
                    go_wp2
                    go_roundw
                    case rel => exact ⟨x + 1, by omega, by go_num, rfl, rfl, HBN, hide (fun _ => unhide HCC), HTJ, HEJ⟩
                    case measure => simp [intOf]; omega
        · obtain rfl : mm = x := by omega
          have HJ := hide (joinOut_good (show joinErr L (k : Int) = 0 from by
            have h1 := unhide HCN (by have := unhide HMMI; omega)
            rw [unhide hEE, if_neg (by omega), unhide HBJ, if_neg (by decide)]))
          rw [Int.toNat_natCast] at HJ
          have hcv : (convert 106 9 (.slice (some ⟨w3.heap.size, 0, none⟩) len p)).run Tryz.prog wr = .ok (.string (strN (joinText L k))) wr := by
            have := run_convert_bytes_arg wr 106 5 Tryz.underlying106 Tryz.underlying5 w3.heap.size 0 len p (((List.range len).map (txtJ L k m n)).map fun (x : Nat) => (x : Int)) (by simp) (fun i hi => by
              rw [Nat.zero_add, (unhide HTX).nat (k := i) (by omega)]
              have hm0 : m ≠ 0 := fun h => by have := unhide hmz h; omega
              have hlt : i % m < mm := by have := Nat.mod_lt i (show 0 < m by omega); have := unhide hmm3; omega
              have : (txtP L k m n mm 0).getD i 0 = txtJ L k m n i := by
                unfold txtP
                rw [List.getD_eq_getElem?_getD, List.getElem?_map, List.getElem?_range (by rw [← unhide HPP]; omega)]
                simp [hlt]
              rw [this, List.getD_eq_getElem?_getD, List.getElem?_map, List.getElem?_map, List.getElem?_range hi]
              rfl) 9 Tryz.underlying9
            rw [strN_nums, ← unhide HJT] at this
            exact this
          have hlpI : (len : Int) ≤ (p : Int) := by omega
          have hl0I : (0 : Int) ≤ (len : Int) := by omega
          generalize strN (joinText L k) = S at *
          go_wp2_with (refine wpList_max2 (o := ⟨some 131, _, _, _, _, _⟩) rfl _ _ _ (by rfl) ln 0 (by rfl) (by rfl) (len : Int) (unhide HMAX) ?_)
          go_wp2
          go_ret2
          refine ⟨?_, (unhide HEX).trans (unhide HEZ)⟩
          rw [unhide HJ]
          rfl
end Go.Proofs.YtpenkbhljkmliaaGreatDoor
