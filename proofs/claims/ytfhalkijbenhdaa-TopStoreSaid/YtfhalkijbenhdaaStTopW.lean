/-
  The walk of the law TopStore.
-/
import Derived.Test.YtfhalkijbenhdaaStTop0
import Derived.Test.YtfhalkijbenhdaaLawD
set_option linter.unusedVariables false
set_option linter.unusedSimpArgs false
namespace Go.Proofs.Ytfhalkijbenhdaa
open Go.RowKit Go.BigFrame

theorem tell1 (tx : ByteArray) (a m : Nat) (r : Int) : tellV ⟨tx, a, m, r⟩ = .tuple #[.agg #[.string tx, .int .i64 (a : Int), .int .i64 0, .int .i64 (m : Int)], .int .i64 r] := rfl
theorem tellNo (r : Int) : tellV (Ans.no r) = .tuple #[.agg #[.string ⟨#[]⟩, .int .i64 0, .int .i64 0, .int .i64 0], .int .i64 r] := rfl
set_option maxRecDepth 100000 in
set_option maxHeartbeats 8000000 in
theorem topstore_law (n0 k0 : Int) (s : ByteArray) (A : Option Addr) (m c : Nat) (l : List Dd) (dw : Nat) (hs : (s.size : Int) ≤ 9223372036854775807) (hdw : dw < 65536) (w : World)
    (S1 : SliceIn w A m c 4 40 (dds l)) (h1 : ∀ d ∈ l, (d.s.size : Int) ≤ 9223372036854775807) :
    Calls Try.prog 10 #[.int .i64 n0, .int .i64 k0, .string s, .slice A m c, .int .u16 (dw : Int)] w fun e w' => e = .returned (.bool true) ∧ Ext w w' := by
  obtain ⟨R1, hnc1, hrb1, -, -⟩ := S1
  have HR1 := hide R1
  have HH1 := hide h1
  have hm1 : m ≤ 4611686018427387904 := by omega
  clear R1 h1 hrb1 hnc1
  obtain ⟨N, hN⟩ : ∃ N : Nat, (N : Int) = 1 + n0 % 10 := ⟨(1 + n0 % 10).toNat, by omega⟩
  have hN1 : 1 ≤ N := by omega
  have hN10 : N ≤ 10 := by omega
  have CA := hide (fun (W : World) => within_any n0 10 W (by omega) (by omega))
  obtain ⟨a, ha⟩ : ∃ a, a = n0 % 10 := ⟨_, rfl⟩
  rw [← ha] at CA hN
  have ha0 : 1 + a = (N : Int) := hN.symm
  have haw : IntKind.i64.wrap (1 + a) = (N : Int) := by rw [ha0]; exact IntWalk.i64_in _ (by omega)
  obtain ⟨K, hK⟩ : ∃ K : Nat, (K : Int) = 1 + k0 % (N : Int) := ⟨(1 + k0 % (N : Int)).toNat, by have := Int.emod_nonneg k0 (show (N : Int) ≠ 0 by omega); omega⟩
  have hK1 : 1 ≤ K := by have := Int.emod_nonneg k0 (show (N : Int) ≠ 0 by omega); omega
  have hKN : K ≤ N := by have := Int.emod_lt_of_pos k0 (show (0 : Int) < (N : Int) by omega); omega
  have CB := hide (fun (W : World) => within_any k0 (N : Int) W (by omega) (by omega))
  obtain ⟨b, hb⟩ : ∃ b, b = k0 % (N : Int) := ⟨_, rfl⟩
  rw [← hb] at CB hK
  have hb0 : 1 + b = (K : Int) := hK.symm
  have hbw : IntKind.i64.wrap (1 + b) = (K : Int) := by rw [hb0]; exact IntWalk.i64_in _ (by omega)
  have CLs := hide (fun (W : World) => qLeast_ok (N : Int) (K : Int) W (by omega) (by omega))
  obtain ⟨Wq, hWq⟩ : ∃ Wq : Nat, Wq = (N + K + 1) / 2 := ⟨_, rfl⟩
  obtain ⟨Rq, hRq⟩ : ∃ Rq : Nat, Rq = (N + K) / 2 := ⟨_, rfl⟩
  rw [show ((N : Int) + (K : Int) + 1) / 2 = (Wq : Int) by omega, show ((N : Int) + (K : Int)) / 2 = (Rq : Int) by omega] at CLs
  have hW1 : 1 ≤ Wq ∧ Wq ≤ N := by omega
  have hRR : 1 ≤ Rq ∧ Rq ≤ N := by omega
  have hWR : N + K ≤ Wq + Rq := by omega
  have hqe := qErr_least ⟨hK1, hKN⟩ hN10 hW1 hRR hWR
  have HO := hide (okNew ⟨hK1, hKN⟩ hN10 hW1 hRR hWR)
  have CN := hide (fun (W : World) => New_ok N K Wq Rq W hqe)
  have hRW : Rq ≤ Wq := by omega
  clear hqe hWR hWq hRq ha hb hN hK
  go_enter Try.func10, Try.ntmps10
  go_wp2_with fail
  refine (unhide CA _).mono ?_
  rintro e w1 ⟨rfl, rfl⟩
  go_wp2_with fail
  refine (unhide CB _).mono ?_
  rintro e w2 ⟨rfl, rfl⟩
  go_wp2_with fail
  refine (unhide CLs _).mono ?_
  rintro e w3 ⟨rfl, E3⟩
  obtain ⟨W0, hW0⟩ : ∃ W0, W0 = w3.alloc (.cells #[.int .i64 (N : Int), .int .i64 (K : Int), .int .i64 (Wq : Int), .int .i64 (Rq : Int)] 23) := ⟨_, rfl⟩
  have HW0 := hide hW0
  have HE0 := hide (show Ext _ W0 from E3.trans (by rw [hW0]; exact (Ext.refl w3).alloc _))
  have q0 : W0.cell? ⟨w3.heap.size, 0, none⟩ = some (.int .i64 (N : Int)) := by rw [hW0, new_cell]; rfl
  have q1 : W0.cell? ⟨w3.heap.size, 1, none⟩ = some (.int .i64 (K : Int)) := by rw [hW0, new_cell]; rfl
  have q2 : W0.cell? ⟨w3.heap.size, 2, none⟩ = some (.int .i64 (Wq : Int)) := by rw [hW0, new_cell]; rfl
  have q3 : W0.cell? ⟨w3.heap.size, 3, none⟩ = some (.int .i64 (Rq : Int)) := by rw [hW0, new_cell]; rfl
  obtain ⟨bq, hbq⟩ : ∃ bq, bq = w3.heap.size := ⟨_, rfl⟩
  have hqs : bq < W0.heap.size := by rw [hbq, hW0]; simp
  rw [← hbq] at q0 q1 q2 q3
  have HBQ := hide hbq
  clear E3 hW0 hbq CA CB CLs
  go_upto_region 4 with fail
  rw [← unhide HW0, ← unhide HBQ]
  go_wp2_with fail
  refine (unhide CN _).mono ?_
  rintro e w4 ⟨⟨p, g, v, rfl, S4⟩, E4⟩
  have HT4 := hide (Has.start (X := fun x => x = bq) S4 E4.size (fun x hx => by rw [hx]; exact hqs))
  have HE4 := hide ((unhide HE0).trans E4)
  have hwb : w2.heap.size ≤ W0.heap.size := (unhide HE0).size
  obtain ⟨b1, hb1⟩ : ∃ b1, b1 = W0.heap.size := ⟨_, rfl⟩
  rw [← hb1] at HT4 hwb
  replace q2 := E4.keep q2
  replace q3 := E4.keep q3
  clear S4 E4 q0 q1 hqs hb1 HW0 HBQ HE0 CN
  go_wp2_with fail
  refine (works_any _).mono ?_
  rintro e w5 ⟨rfl, E5⟩
  have HT5 := hide ((unhide HT4).keep E5)
  have HE5 := hide ((unhide HE4).trans E5)
  replace q2 := E5.keep q2
  replace q3 := E5.keep q3
  clear E5 HT4 HE4
  go_wp2_with fail
  obtain ⟨wd, hwd⟩ : ∃ wd, wd = w5.alloc (.cells #[.int .i64 0, .int .i64 0] 28) := ⟨_, rfl⟩
  have HWD := hide hwd
  have Ed : Ext w5 wd := by rw [hwd]; exact (Ext.refl w5).alloc _
  have g0 : wd.cell? ⟨w5.heap.size, 0, none⟩ = some (.int .i64 0) := by rw [hwd, new_cell]; rfl
  have g1 : wd.cell? ⟨w5.heap.size, 1, none⟩ = some (.int .i64 0) := by rw [hwd, new_cell]; rfl
  have CG := hide (tgood_two_ok w5.heap.size 2 wd g0 g1)
  rw [← unhide HWD]
  refine (unhide CG).mono ?_
  rintro e w6 ⟨rfl, rfl⟩
  have HTd := hide ((unhide HT5).keep Ed)
  have HEd := hide ((unhide HE5).trans Ed)
  replace q2 := Ed.keep q2
  replace q3 := Ed.keep q3
  clear hwd Ed g0 g1 CG HT5 HE5 HWD
  have CD := hide ((unhide HTd).do_ (unhide HO).fine 1 0 0 s hs)
  by_cases hL : 60 < s.size
  · rw [Sto.put_large N K Wq Rq hL, tellNo] at CD
    have hLI : (60 : Int) < (s.size : Int) := by omega
    go_wp2_with fail
    refine (unhide CD).mono ?_
    rintro e w7 ⟨rfl, -, -, X7, -⟩
    have HE7 := hide ((X7 w2 (unhide HEd) hwb).alloc (.cells #[.string ⟨#[]⟩, .int .i64 0, .int .i64 0, .int .i64 0] 33))
    clear X7 CD
    go_wp2
    go_ret
    exact ⟨rfl, unhide HE7⟩
  · obtain ⟨σ1, f1, TS, d1, d2, d3, d4, hdn⟩ := Sto.put_small (unhide HO) (show s.size ≤ 60 by omega)
    rw [f1] at CD
    simp only [tell1, show ((1 : Nat) : Int) = 1 from rfl, show ((0 : Nat) : Int) = 0 from rfl] at CD
    have HTS := hide TS
    have HDIM := hide (show σ1.N = N ∧ σ1.K = K ∧ σ1.W = Wq ∧ σ1.R = Rq from ⟨d1, d2, d3, d4⟩)
    have HDN := hide (show ∀ j, 0 ≤ j → σ1.down j = false from fun j _ => hdn j)
    have hL60 : s.size ≤ 60 := by omega
    obtain ⟨HH, hHH⟩ : ∃ HH, HH = Sto.ext (fun _ => (0, ByteArray.empty)) 1 0 s := ⟨_, rfl⟩
    rw [← hHH] at HTS
    clear f1 TS d1 d2 d3 d4 hdn hL hHH HO
    go_wp2_with fail
    refine (unhide CD).mono ?_
    rintro e w7 ⟨rfl, T7, C7, X7, -⟩
    obtain ⟨wa, hwa⟩ : ∃ wa, wa = w7.alloc (.cells #[.string ByteArray.empty, .int .i64 1, .int .i64 0, .int .i64 0] 33) := ⟨_, rfl⟩
    have HWA := hide hwa
    have Ea : Ext w7 wa := by rw [hwa]; exact (Ext.refl w7).alloc _
    have HTa := hide ((T7.grow Ea).less (Y := fun x => x = bq ∨ x = w7.heap.size) (fun x h => by
      rcases h with h | h
      · exact .inl h
      · exact .inr ⟨by omega, by rw [h, hwa]; simp⟩))
    have HEa := hide ((X7 w2 (unhide HEd) hwb).trans Ea)
    have hu1 : wa.cell? ⟨w7.heap.size, 1, none⟩ = some (.int .i64 1) := by rw [hwa, new_cell]; rfl
    have hu2 : wa.cell? ⟨w7.heap.size, 2, none⟩ = some (.int .i64 0) := by rw [hwa, new_cell]; rfl
    have q2' := Ea.keep (C7 _ _ rfl q2)
    have q3' := Ea.keep (C7 _ _ rfl q3)
    obtain ⟨bp, hbp⟩ : ∃ bp, bp = w7.heap.size := ⟨_, rfl⟩
    rw [← hbp] at HTa hu1 hu2
    have HBP := hide hbp
    have HCL := hide (show wa.cell? ⟨bq, 2, none⟩ = some (.int .i64 (Wq : Int)) ∧ wa.cell? ⟨bq, 3, none⟩ = some (.int .i64 (Rq : Int)) ∧ wa.cell? ⟨bp, 1, none⟩ = some (.int .i64 1) ∧ wa.cell? ⟨bp, 2, none⟩ = some (.int .i64 0) from ⟨q2', q3', hu1, hu2⟩)
    clear hwa Ea T7 C7 X7 CD q2 q3 q2' q3' hu1 hu2 hbp HTd HEd
    go_upto_region 10 with fail
    rw [← unhide HWA, ← unhide HBP]
    go_wp2
    go_loopw [77] (fun i wr => ∃ x : Nat, x ≤ N ∧ i = .int .i64 x ∧ ∃ τ, Hid (Has b1 wr p g τ (fun x => x = bq ∨ x = bp)) ∧ Hid (Sto.TopS τ s HH) ∧ Hid (τ.N = N ∧ τ.K = K ∧ τ.W = Wq ∧ τ.R = Rq) ∧ Hid (∀ j, x ≤ j → τ.down j = false) ∧
      Hid (wr.cell? ⟨bq, 2, none⟩ = some (.int .i64 (Wq : Int)) ∧ wr.cell? ⟨bq, 3, none⟩ = some (.int .i64 (Rq : Int)) ∧ wr.cell? ⟨bp, 1, none⟩ = some (.int .i64 1) ∧ wr.cell? ⟨bp, 2, none⟩ = some (.int .i64 0)) ∧ Hid (Ext w2 wr)) (fun i _ => N - (intOf i).toNat)
    case atStart => exact ⟨0, Nat.zero_le _, rfl, σ1, HTa, HTS, HDIM, HDN, HCL, HEa⟩
    case round =>
      obtain ⟨x, hx, rfl, τ, HT, HTS, HDIM, HDN, HC, HE⟩ := hrel
      by_cases hlt : x < N
      · have hxI : (x : Int) < (N : Int) := by omega
        have hxN : x < τ.N := by rw [(unhide HDIM).1]; exact hlt
        have CL := hide ((unhide HT).look (unhide HTS).ok.fine x 0 hxN (by omega))
        rw [unhide HDN x (Nat.le_refl _), (unhide HTS).kept x hxN] at CL
        have hpc := ((unhide HTS).ok.pce_good hL60 hxN).1
        rw [(unhide HDIM).2.1] at hpc
        obtain ⟨pc, hpcd⟩ : ∃ pc, pc = τ.pce s x := ⟨_, rfl⟩
        rw [← hpcd] at CL hpc
        rw [show [(1, pc)].length = 1 from rfl] at CL
        simp only [Bool.not_false] at CL
        have CDD := hide (fun (W : World) (h : Has b1 W p g τ (fun x => x = bq ∨ x = bp)) => h.do_ (unhide HTS).ok.fine 4 0 (x : Int) ByteArray.empty (by decide))
        clear hpcd
        go_wp2_with fail
        refine (unhide CL).mono ?_
        rintro e w8 ⟨⟨u, rfl, hown⟩, E8⟩
        obtain ⟨A8, c8, rfl, R8, -, -, -⟩ := row_of_own hown
        obtain ⟨b8, o8, rfl, hb8, e1, e2, e3⟩ := R8.kp (j := 0) (by simp)
        replace e1 : w8.cell? ⟨b8, o8 + 0 * 3, none⟩ = some (.int .i64 1) := e1
        replace e2 : w8.cell? ⟨b8, o8 + 0 * 3 + 1, none⟩ = some (.int .i64 0) := e2
        replace e3 : w8.cell? ⟨b8, o8 + 0 * 3 + 2, none⟩ = some (.string pc) := e3
        rw [Nat.zero_mul, Nat.add_zero] at e1 e2 e3
        obtain ⟨q2, q3, u1, u2⟩ := unhide HC
        have q2 := E8.keep q2
        have q3 := E8.keep q3
        have u1 := E8.keep u1
        have u2 := E8.keep u2
        have HT8 := hide ((unhide HT).keep E8)
        have HE8 := hide ((unhide HE).trans E8)
        have hpcI : (pc.size : Int) = 5 + (sz s.size K : Int) := by rw [hpc]; simp
        have n1 : IntKind.i64.wrap ((s.size : Int) + (K : Int)) = (s.size : Int) + (K : Int) := IntWalk.i64_in _ (by omega)
        have n2 : IntKind.i64.wrap ((s.size : Int) + (K : Int) - 1) = (s.size : Int) + (K : Int) - 1 := IntWalk.i64_in _ (by omega)
        have hsz60 : sz s.size K ≤ s.size := sz_le hK1
        have n3 : ((s.size : Int) + (K : Int) - 1).tdiv (K : Int) = (sz s.size K : Int) := by
          rw [show (s.size : Int) + (K : Int) - 1 = ((s.size + K - 1 : Nat) : Int) by omega]
          rfl
        have n4 : IntKind.i64.wrap ((sz s.size K : Int) + 5) = (sz s.size K : Int) + 5 := IntWalk.i64_in _ (by omega)
        have n5 : IntKind.i64.wrap (sz s.size K : Int) = (sz s.size K : Int) := IntWalk.i64_in _ (by omega)
        have hst : ∀ w, (binOp .neq 31 (.agg #[.int .i64 1, .int .i64 0]) (.agg #[.int .i64 1, .int .i64 0])).run Try.prog w = .ok (.bool false) w := fun w => by
          have h1 := Try.underlying31
          have h2 := Try.underlying3
          rw [run_neq_struct]
          simp [go_sem, h1, h2]
        have hcmp : ((pc.size : Int) != (sz s.size K : Int) + 5) = false := by rw [hpcI, Int.add_comm]; simp
        have hK0 : ¬ (K : Int) = 0 := by omega
        have hKn1 : ¬ (K : Int) = -1 := by omega
        clear CL E8 hown R8 hpc
        go_wp2
        go_quiet (fail)
        have HTN := hide ((unhide HT8).keep ((Ext.refl w8).drewN nq))
        have HEN := hide ((unhide HE8).drewN nq)
        have HCN := hide (show (w8.drewN nq).cell? ⟨bq, 2, none⟩ = some (.int .i64 (Wq : Int)) ∧ (w8.drewN nq).cell? ⟨bq, 3, none⟩ = some (.int .i64 (Rq : Int)) ∧ (w8.drewN nq).cell? ⟨bp, 1, none⟩ = some (.int .i64 1) ∧ (w8.drewN nq).cell? ⟨bp, 2, none⟩ = some (.int .i64 0) from ⟨q2, q3, u1, u2⟩)
        clear e1 e2 e3 q2 q3 u1 u2 hst n1 n2 n3 n4 n5 hpcI hcmp hK0 hKn1 hb8 HT8 HE8 HT HE HC
        generalize (w8.drewN nq) = wn at *
        have htrn := (unhide HTS).turn (.inl rfl) 0 (x : Int) ByteArray.empty
        have HTS2 := hide htrn.1
        have HDIM2 := hide (show (τ.doS 4 0 (x : Int) ByteArray.empty).2.N = N ∧ (τ.doS 4 0 (x : Int) ByteArray.empty).2.K = K ∧ (τ.doS 4 0 (x : Int) ByteArray.empty).2.W = Wq ∧ (τ.doS 4 0 (x : Int) ByteArray.empty).2.R = Rq from
          ⟨htrn.2.1.trans (unhide HDIM).1, htrn.2.2.1.trans (unhide HDIM).2.1, htrn.2.2.2.1.trans (unhide HDIM).2.2.1, htrn.2.2.2.2.trans (unhide HDIM).2.2.2⟩)
        have HDN2 := hide (show ∀ j, x + 1 ≤ j → (τ.doS 4 0 (x : Int) ByteArray.empty).2.down j = false from fun j hj => by
          rw [Sto.doS_down τ hxN]
          show (if j = x then true else τ.down j) = false
          rw [if_neg (by omega)]
          exact unhide HDN j (by omega))
        have HDN1 := hide (show ∀ j, x + 1 ≤ j → τ.down j = false from fun j hj => unhide HDN j (by omega))
        have hsum : IntKind.i64.wrap ((x : Int) + 1) = (x : Int) + 1 := IntWalk.i64_in _ (by omega)
        obtain ⟨τ2, hτ2⟩ : ∃ τ2, τ2 = (τ.doS 4 0 (x : Int) ByteArray.empty).2 := ⟨_, rfl⟩
        obtain ⟨an, han⟩ : ∃ an, an = (τ.doS 4 0 (x : Int) ByteArray.empty).1 := ⟨_, rfl⟩
        rw [← hτ2] at CDD HTS2 HDIM2 HDN2
        rw [← han] at CDD
        clear htrn hτ2 han
        go_wp2_with fail
        · refine (unhide CDD _ (unhide HTN)).mono ?_
          rintro e w9 ⟨rfl, T9, C9, X9, -⟩
          obtain ⟨q2, q3, u1, u2⟩ := unhide HCN
          have HC9 := hide (show w9.cell? ⟨bq, 2, none⟩ = some (.int .i64 (Wq : Int)) ∧ w9.cell? ⟨bq, 3, none⟩ = some (.int .i64 (Rq : Int)) ∧ w9.cell? ⟨bp, 1, none⟩ = some (.int .i64 1) ∧ w9.cell? ⟨bp, 2, none⟩ = some (.int .i64 0) from
            ⟨C9 _ _ (.inl rfl) q2, C9 _ _ (.inl rfl) q3, C9 _ _ (.inr rfl) u1, C9 _ _ (.inr rfl) u2⟩)
          have HT9 := hide T9
          have HE9 := hide (X9 w2 (unhide HEN) hwb)
          obtain ⟨tx, at_, mn, er⟩ := an
          rw [tell1]
          clear q2 q3 u1 u2 C9 X9 T9 CDD
          go_wp2
          go_roundw
          case rel => exact ⟨x + 1, by omega, by go_num, τ2, HT9, HTS2, HDIM2, HDN2, HC9, HE9⟩
          case measure => simp [intOf]; omega
        · go_roundw
          case rel => exact ⟨x + 1, by omega, by go_num, τ, HTN, HTS, HDIM, HDN1, HCN, HEN⟩
          case measure => simp [intOf]; omega
      · obtain rfl : N = x := by omega
        go_wp2
        go_loopw [135] (fun i wr => ∃ x : Nat, x ≤ m ∧ i = .int .i64 x ∧ ∃ τ, Hid (Has b1 wr p g τ (fun x => x = bq ∨ x = bp)) ∧ Hid (Sto.TopS τ s HH) ∧ Hid (τ.N = N ∧ τ.K = K ∧ τ.W = Wq ∧ τ.R = Rq) ∧
          Hid (wr.cell? ⟨bq, 2, none⟩ = some (.int .i64 (Wq : Int)) ∧ wr.cell? ⟨bq, 3, none⟩ = some (.int .i64 (Rq : Int)) ∧ wr.cell? ⟨bp, 1, none⟩ = some (.int .i64 1) ∧ wr.cell? ⟨bp, 2, none⟩ = some (.int .i64 0)) ∧ Hid (Ext w2 wr)) (fun i _ => m - (intOf i).toNat)
        case atStart => exact ⟨0, Nat.zero_le _, rfl, τ, HT, HTS, HDIM, HC, HE⟩
        case round =>
          clear HT HTS HDIM HC HE HDN
          obtain ⟨x, hx, rfl, τ, HT, HTS, HDIM, HC, HE⟩ := hrel
          by_cases hlt : x < m
          · obtain ⟨b9, o9, rfl, hb9, c1, c2, c3, c4⟩ := ((unhide HR1).keep (unhide HE)).dd hlt
            have hxl : x < l.length := by rw [(unhide HR1).ddn]; exact hlt
            have hsz := unhide HH1 _ (dg_mem hxl)
            have hxI : (x : Int) < (m : Int) := by omega
            have hsum : IntKind.i64.wrap ((x : Int) + 1) = (x : Int) + 1 := IntWalk.i64_in _ (by omega)
            generalize (dg l x).kind = d1 at *
            generalize (dg l x).key = d2 at *
            generalize (dg l x).n = d3 at *
            generalize (dg l x).s = d4 at *
            obtain ⟨wb, hwb'⟩ : ∃ wb, wb = wr.alloc (.cells #[.int .i64 d1, .int .i64 d2, .int .i64 d3, .string d4] 37) := ⟨_, rfl⟩
            have HWB := hide hwb'
            have Eb : Ext wr wb := by rw [hwb']; exact (Ext.refl wr).alloc _
            have B0 : wb.cell? ⟨wr.heap.size, 0, none⟩ = some (.int .i64 d1) := by rw [hwb', new_cell]; rfl
            have B1 : wb.cell? ⟨wr.heap.size, 1, none⟩ = some (.int .i64 d2) := by rw [hwb', new_cell]; rfl
            have B2 : wb.cell? ⟨wr.heap.size, 2, none⟩ = some (.int .i64 d3) := by rw [hwb', new_cell]; rfl
            have B3 : wb.cell? ⟨wr.heap.size, 3, none⟩ = some (.string d4) := by rw [hwb', new_cell]; rfl
            have HTb := hide ((unhide HT).keep Eb)
            have HEb := hide ((unhide HE).trans Eb)
            obtain ⟨q2, q3, u1, u2⟩ := unhide HC
            have HCb := hide (show wb.cell? ⟨bq, 2, none⟩ = some (.int .i64 (Wq : Int)) ∧ wb.cell? ⟨bq, 3, none⟩ = some (.int .i64 (Rq : Int)) ∧ wb.cell? ⟨bp, 1, none⟩ = some (.int .i64 1) ∧ wb.cell? ⟨bp, 2, none⟩ = some (.int .i64 0) from ⟨Eb.keep q2, Eb.keep q3, Eb.keep u1, Eb.keep u2⟩)
            clear q2 q3 u1 u2 hwb' Eb hxl
            go_upto_region 22 with fail
            rw [← unhide HWB]
            by_cases hk : d1 = 4 ∨ d1 = 5
            · have htrn := (unhide HTS).turn hk d2 d3 d4
              have CDD := hide ((unhide HTb).do_ (unhide HTS).ok.fine d1 d2 d3 d4 hsz)
              have HTS2 := hide htrn.1
              have HDIM2 := hide (show (τ.doS d1 d2 d3 d4).2.N = N ∧ (τ.doS d1 d2 d3 d4).2.K = K ∧ (τ.doS d1 d2 d3 d4).2.W = Wq ∧ (τ.doS d1 d2 d3 d4).2.R = Rq from
                ⟨htrn.2.1.trans (unhide HDIM).1, htrn.2.2.1.trans (unhide HDIM).2.1, htrn.2.2.2.1.trans (unhide HDIM).2.2.1, htrn.2.2.2.2.trans (unhide HDIM).2.2.2⟩)
              obtain ⟨τ2, hτ2⟩ : ∃ τ2, τ2 = (τ.doS d1 d2 d3 d4).2 := ⟨_, rfl⟩
              obtain ⟨an, han⟩ : ∃ an, an = (τ.doS d1 d2 d3 d4).1 := ⟨_, rfl⟩
              rw [← hτ2] at CDD HTS2 HDIM2
              rw [← han] at CDD
              obtain ⟨tx, at_, mn, er⟩ := an
              rw [tell1] at CDD
              clear htrn hτ2 han
              rcases hk with rfl | rfl
              all_goals
                go_wp2_with fail
                refine (unhide CDD).mono ?_
                rintro e w9 ⟨rfl, T9, C9, X9, -⟩
                obtain ⟨q2, q3, u1, u2⟩ := unhide HCb
                have HC9 := hide (show w9.cell? ⟨bq, 2, none⟩ = some (.int .i64 (Wq : Int)) ∧ w9.cell? ⟨bq, 3, none⟩ = some (.int .i64 (Rq : Int)) ∧ w9.cell? ⟨bp, 1, none⟩ = some (.int .i64 1) ∧ w9.cell? ⟨bp, 2, none⟩ = some (.int .i64 0) from
                  ⟨C9 _ _ (.inl rfl) q2, C9 _ _ (.inl rfl) q3, C9 _ _ (.inr rfl) u1, C9 _ _ (.inr rfl) u2⟩)
                have HT9 := hide T9
                have HE9 := hide (X9 w2 (unhide HEb) hwb)
                clear q2 q3 u1 u2 C9 X9 T9 CDD B0 B1 B2 B3
                go_wp2
                go_roundw
                case rel => exact ⟨x + 1, by omega, by go_num, τ2, HT9, HTS2, HDIM2, HC9, HE9⟩
                case measure => simp [intOf]; omega
            · have e4 : (d1 == 4) = false := by rw [beq_eq_false_iff_ne]; exact fun h => hk (.inl h)
              have e5 : (d1 == 5) = false := by rw [beq_eq_false_iff_ne]; exact fun h => hk (.inr h)
              clear hk
              go_wp2
              go_roundw
              case rel => exact ⟨x + 1, by omega, by go_num, τ, HTb, HTS, HDIM, HCb, HEb⟩
              case measure => simp [intOf]; omega
          · obtain rfl : m = x := by omega
            have CDG := hide ((unhide HT).do_ (unhide HTS).ok.fine 3 0 0 ByteArray.empty (by decide))
            have HFI := hide ((unhide HTS).ok.do_ 3 0 0 ByteArray.empty).fine
            have hgu := Sto.get_ups τ ByteArray.empty
            have HN3 := hide (hgu.1.trans (unhide HDIM).1)
            have HD3 := hide hgu.2
            obtain ⟨U, hU⟩ : ∃ U, U = τ.ups.length := ⟨_, rfl⟩
            have HU := hide hU
            clear hgu
            by_cases hfew : τ.ups.length < τ.R ∨ τ.ups.length < τ.W
            · have hfewU : U < Wq := by
                have h1 := (unhide HDIM).2.2.1
                have h2 := (unhide HDIM).2.2.2
                omega
              rw [(unhide HTS).few ByteArray.empty hfew, tellNo] at CDG
              go_wp2_with fail
              refine (unhide CDG).mono ?_
              rintro e w9 ⟨rfl, T9, C9, X9, -⟩
              obtain ⟨wx, hwx⟩ : ∃ wx, wx = w9.alloc (.cells #[.string ⟨#[]⟩, .int .i64 0, .int .i64 0, .int .i64 0] 33) := ⟨_, rfl⟩
              have HWX := hide hwx
              have Ex : Ext w9 wx := by rw [hwx]; exact (Ext.refl w9).alloc _
              obtain ⟨q2, q3, u1, u2⟩ := unhide HC
              have HQ := hide (fun W (E : Ext wx W) => show (W.cell? ⟨bq, 2, none⟩ = some (.int .i64 (Wq : Int)) ∧ W.cell? ⟨bq, 3, none⟩ = some (.int .i64 (Rq : Int)) ∧ W.cell? ⟨bp, 1, none⟩ = some (.int .i64 1) ∧ W.cell? ⟨bp, 2, none⟩ = some (.int .i64 0)) ∧ W.cell? ⟨w9.heap.size, 0, none⟩ = some (.string ⟨#[]⟩) ∧ W.cell? ⟨w9.heap.size, 1, none⟩ = some (.int .i64 0) ∧ W.cell? ⟨w9.heap.size, 2, none⟩ = some (.int .i64 0) from
                ⟨⟨E.keep (Ex.keep (C9 _ _ (.inl rfl) q2)), E.keep (Ex.keep (C9 _ _ (.inl rfl) q3)), E.keep (Ex.keep (C9 _ _ (.inr rfl) u1)), E.keep (Ex.keep (C9 _ _ (.inr rfl) u2))⟩, E.keep (by rw [hwx, new_cell]; rfl), E.keep (by rw [hwx, new_cell]; rfl), E.keep (by rw [hwx, new_cell]; rfl)⟩)
              have HTX := hide (T9.keep Ex)
              have HEX := hide ((X9 w2 (unhide HE) hwb).trans Ex)
              obtain ⟨bx, hbx⟩ : ∃ bx, bx = w9.heap.size := ⟨_, rfl⟩
              rw [← hbx] at HQ
              have HBX := hide hbx
              clear q2 q3 u1 u2 hwx Ex T9 C9 X9 CDG hbx
              go_upto_region 26 with fail
              rw [← unhide HWX, ← unhide HBX]
              go_wp2
              go_loopw [24, 158] (fun cv i wz => ∃ x : Nat, x ≤ N ∧ i = .int .i64 x ∧ cv = .int .i64 ((τ.upsTo x).length : Nat) ∧ Ext wx wz) (fun _ i _ => N - (intOf i).toNat)
              case atStart => exact ⟨0, Nat.zero_le _, rfl, rfl, Ext.refl wx⟩
              case round =>
                obtain ⟨x, hx, rfl, rfl, hext⟩ := hrel
                by_cases hlt : x < N
                · have hxI : (x : Int) < (N : Int) := by omega
                  have CL := hide (((unhide HTX).keep hext).look (unhide HFI) x 0 (by rw [unhide HN3]; exact hlt) (by omega))
                  rw [unhide HD3] at CL
                  have hcl := τ.upsTo_le x
                  have HY := hide (τ.upsTo_yes (x := x))
                  have HNo := hide (τ.upsTo_no (x := x))
                  obtain ⟨qd, hqd⟩ : ∃ qd, qd = τ.down x := ⟨_, rfl⟩
                  rw [← hqd] at CL HY HNo
                  obtain ⟨cn, hcn⟩ : ∃ cn, cn = (τ.upsTo x).length := ⟨_, rfl⟩
                  rw [← hcn] at hcl ⊢
                  have HCN := hide hcn
                  clear hcn hqd
                  go_wp2_with fail
                  refine (unhide CL).mono ?_
                  rintro e w10 ⟨⟨u, rfl, -⟩, E10⟩
                  have hext2 := hext.trans E10
                  cases qd with
                  | true =>
                    simp only [Bool.not_true]
                    clear E10 CL
                    go_wp2
                    go_roundw
                    case rel => exact ⟨x + 1, by omega, by go_num, by rw [unhide HNo rfl, ← unhide HCN], hext2⟩
                    case measure => simp [intOf]; omega
                  | false =>
                    simp only [Bool.not_false]
                    clear E10 CL
                    go_wp2
                    go_roundw
                    case rel => exact ⟨x + 1, by omega, by go_num, by rw [unhide HY rfl, List.length_append, ← unhide HCN]; go_num, hext2⟩
                    case measure => simp [intOf]; omega
                · obtain rfl : N = x := by omega
                  rw [show (τ.upsTo N).length = U from by rw [unhide HU, ← (unhide HDIM).1, Sto.upsTo_all]]
                  obtain ⟨⟨q2, q3, u1, u2⟩, v0, v1, v2⟩ := unhide HQ _ hext
                  have HEZ := hide ((unhide HEX).trans hext)
                  clear HQ
                  have hUW : (U : Int) < (Wq : Int) := by omega
                  go_wp2
                  all_goals
                    go_ret
                    exact ⟨rfl, unhide HEZ⟩
            · have hfewU : ¬ U < Wq := by
                have h1 := (unhide HDIM).2.2.1
                have h2 := (unhide HDIM).2.2.2
                omega
              rw [(unhide HTS).get ByteArray.empty hfew, tell1] at CDG
              simp only [show ((1 : Nat) : Int) = 1 from rfl, show ((0 : Nat) : Int) = 0 from rfl] at CDG
              go_wp2_with fail
              refine (unhide CDG).mono ?_
              rintro e w9 ⟨rfl, T9, C9, X9, -⟩
              obtain ⟨wx, hwx⟩ : ∃ wx, wx = w9.alloc (.cells #[.string s, .int .i64 1, .int .i64 0, .int .i64 0] 33) := ⟨_, rfl⟩
              have HWX := hide hwx
              have Ex : Ext w9 wx := by rw [hwx]; exact (Ext.refl w9).alloc _
              obtain ⟨q2, q3, u1, u2⟩ := unhide HC
              have HQ := hide (fun W (E : Ext wx W) => show (W.cell? ⟨bq, 2, none⟩ = some (.int .i64 (Wq : Int)) ∧ W.cell? ⟨bq, 3, none⟩ = some (.int .i64 (Rq : Int)) ∧ W.cell? ⟨bp, 1, none⟩ = some (.int .i64 1) ∧ W.cell? ⟨bp, 2, none⟩ = some (.int .i64 0)) ∧ W.cell? ⟨w9.heap.size, 0, none⟩ = some (.string s) ∧ W.cell? ⟨w9.heap.size, 1, none⟩ = some (.int .i64 1) ∧ W.cell? ⟨w9.heap.size, 2, none⟩ = some (.int .i64 0) from
                ⟨⟨E.keep (Ex.keep (C9 _ _ (.inl rfl) q2)), E.keep (Ex.keep (C9 _ _ (.inl rfl) q3)), E.keep (Ex.keep (C9 _ _ (.inr rfl) u1)), E.keep (Ex.keep (C9 _ _ (.inr rfl) u2))⟩, E.keep (by rw [hwx, new_cell]; rfl), E.keep (by rw [hwx, new_cell]; rfl), E.keep (by rw [hwx, new_cell]; rfl)⟩)
              have HTX := hide (T9.keep Ex)
              have HEX := hide ((X9 w2 (unhide HE) hwb).trans Ex)
              obtain ⟨bx, hbx⟩ : ∃ bx, bx = w9.heap.size := ⟨_, rfl⟩
              rw [← hbx] at HQ
              have HBX := hide hbx
              clear q2 q3 u1 u2 hwx Ex T9 C9 X9 CDG hbx
              go_upto_region 26 with fail
              rw [← unhide HWX, ← unhide HBX]
              go_wp2
              go_loopw [24, 158] (fun cv i wz => ∃ x : Nat, x ≤ N ∧ i = .int .i64 x ∧ cv = .int .i64 ((τ.upsTo x).length : Nat) ∧ Ext wx wz) (fun _ i _ => N - (intOf i).toNat)
              case atStart => exact ⟨0, Nat.zero_le _, rfl, rfl, Ext.refl wx⟩
              case round =>
                obtain ⟨x, hx, rfl, rfl, hext⟩ := hrel
                by_cases hlt : x < N
                · have hxI : (x : Int) < (N : Int) := by omega
                  have CL := hide (((unhide HTX).keep hext).look (unhide HFI) x 0 (by rw [unhide HN3]; exact hlt) (by omega))
                  rw [unhide HD3] at CL
                  have hcl := τ.upsTo_le x
                  have HY := hide (τ.upsTo_yes (x := x))
                  have HNo := hide (τ.upsTo_no (x := x))
                  obtain ⟨qd, hqd⟩ : ∃ qd, qd = τ.down x := ⟨_, rfl⟩
                  rw [← hqd] at CL HY HNo
                  obtain ⟨cn, hcn⟩ : ∃ cn, cn = (τ.upsTo x).length := ⟨_, rfl⟩
                  rw [← hcn] at hcl ⊢
                  have HCN := hide hcn
                  clear hcn hqd
                  go_wp2_with fail
                  refine (unhide CL).mono ?_
                  rintro e w10 ⟨⟨u, rfl, -⟩, E10⟩
                  have hext2 := hext.trans E10
                  cases qd with
                  | true =>
                    simp only [Bool.not_true]
                    clear E10 CL
                    go_wp2
                    go_roundw
                    case rel => exact ⟨x + 1, by omega, by go_num, by rw [unhide HNo rfl, ← unhide HCN], hext2⟩
                    case measure => simp [intOf]; omega
                  | false =>
                    simp only [Bool.not_false]
                    clear E10 CL
                    go_wp2
                    go_roundw
                    case rel => exact ⟨x + 1, by omega, by go_num, by rw [unhide HY rfl, List.length_append, ← unhide HCN]; go_num, hext2⟩
                    case measure => simp [intOf]; omega
                · obtain rfl : N = x := by omega
                  rw [show (τ.upsTo N).length = U from by rw [unhide HU, ← (unhide HDIM).1, Sto.upsTo_all]]
                  obtain ⟨⟨q2, q3, u1, u2⟩, v0, v1, v2⟩ := unhide HQ _ hext
                  have HEZ := hide ((unhide HEX).trans hext)
                  clear HQ
                  have hUW : ¬ (U : Int) < (Wq : Int) := by omega
                  have hst : ∀ w, (binOp .eql 31 (.agg #[.int .i64 1, .int .i64 0]) (.agg #[.int .i64 1, .int .i64 0])).run Try.prog w = .ok (.bool true) w := fun w => by
                    have h1 := Try.underlying31
                    have h2 := Try.underlying3
                    rw [run_eql_struct]
                    simp [go_sem, h1, h2]
                  go_wp2
                  all_goals
                    go_ret
                    exact ⟨rfl, unhide HEZ⟩
end Go.Proofs.Ytfhalkijbenhdaa
