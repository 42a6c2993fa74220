/-
  The walk of the law PrimeOne.
-/
import Derived.Test.YticphnjljnhlcaaOne0
import Derived.Test.YticphnjljnhlcaaArith1
set_option linter.unusedVariables false
set_option linter.unusedSimpArgs false
namespace Go.Proofs.Yticphnjljnhlcaa
open Go.RowKit Go.BigFrame

theorem p2_ : Wm.Prime 2 := Wm.pchk_spec (r := 0) (by decide +kernel)
theorem p3_ : Wm.Prime 3 := Wm.pchk_spec (r := 1) (by decide +kernel)
theorem fac12_ : Wm.IsFac 12 [(2, 2), (3, 1)] := ⟨by simp, fun x hx => by
  simp only [List.mem_cons, List.not_mem_nil, or_false] at hx
  rcases hx with rfl | rfl
  · exact ⟨p2_, by decide⟩
  · exact ⟨p3_, by decide⟩, by decide⟩
theorem own_nil {w : World} {base e n : Nat} {v : Value} {size : Nat} {xs : List Value} (h : w.ownsRow base e size v n xs) : ∃ A c, v = .slice A n c ∧ Row w A n size xs ∧ (A = none → n = 0 ∧ c = 0) := by
  have hc := h
  have hl := h.lt
  obtain ⟨h1, h2⟩ := h
  rcases h2 with ⟨rfl, h2⟩ | ⟨g, cap, cur, rfl, hg, hh, hnc, hcm, r⟩
  · subst h2
    have : xs = [] := List.eq_nil_of_length_eq_zero (by simpa using h1)
    subst this
    exact ⟨none, 0, rfl, Row.none_ , fun _ => ⟨rfl, rfl⟩⟩
  · exact ⟨some ⟨g, 0, none⟩, cap, rfl, ⟨h1, fun _ => ⟨g, 0, rfl, (hl g rfl).2, fun j hj => by rw [Nat.zero_add]; exact hc.cellAt j hj⟩⟩, fun h => by cases h⟩

set_option maxRecDepth 100000 in
set_option maxHeartbeats 1000000 in
theorem one1_any (a k x : Int) (q : Addr) (w : World) (hq : w.cell? q = some (.int .i64 x)) :
    Calls Try.prog 21 #[.agg #[.int .i64 a, .int .i64 k], .pointer (some q)] w fun e w' => e = .returned (.bool (a == x)) ∧ Ext w w' := by
  have hq2 := fun o : Obj => (World.cell?_alloc_lt w o q (World.block_lt_of_cell? w q (by rw [hq]))).trans hq
  go_enter Try.func21, Try.ntmps21
  go_wp2
  go_ret
  exact ⟨rfl, (Ext.refl _).alloc _⟩

theorem castP_append (l m : List (Nat × Nat)) : castP l ++ castP m = castP (l ++ m) := (List.map_append ..).symm
theorem cnt_take_succ (p : Nat) (l : List (Nat × Nat)) {k : Nat} (hk : k < l.length) : Wm.cnt p (l.take (k + 1)) = Wm.cnt p (l.take k) + (if (l.getD k (0, 0)).1 = p then (l.getD k (0, 0)).2 else 0) := by
  rw [take_snoc l (0, 0) hk, Wm.cnt_append]
  simp [Wm.cnt]
theorem cnt_take_le (p : Nat) (l : List (Nat × Nat)) (k : Nat) : Wm.cnt p (l.take k) ≤ Wm.cnt p l := by
  have := Wm.cnt_append p (l.take k) (l.drop k)
  rw [List.take_append_drop] at this
  omega

theorem has_all {a b : Nat} {x y z : List (Nat × Nat)} (hx : Wm.IsFac a x) (hy : Wm.IsFac b y) (h : ∀ p, Wm.Prime p → Wm.cnt p z = Wm.cnt p (x ++ y)) {t : Nat × Nat} (ht : t ∈ x ++ y) : (castP z).any (fun u => u.1 == (t.1 : Int)) = true := by
  have hp : Wm.Prime t.1 ∧ 0 < Wm.cnt t.1 (x ++ y) := by
    rw [Wm.cnt_append]
    rw [List.mem_append] at ht
    rcases ht with ht | ht
    · have h1 := hx.2.1 _ ht
      have h2 := Wm.cnt_mem hx.1 ht
      exact ⟨h1.1, by omega⟩
    · have h1 := hy.2.1 _ ht
      have h2 := Wm.cnt_mem hy.1 ht
      exact ⟨h1.1, by omega⟩
  rw [← h _ hp.1] at hp
  obtain ⟨u, hu, hut⟩ := Wm.cnt_pos hp.2
  rw [List.any_eq_true]
  exact ⟨((u.1 : Int), (u.2 : Int)), List.mem_map.2 ⟨u, hu, rfl⟩, by rw [hut]; exact beq_self_eq_true _⟩

set_option maxRecDepth 100000 in
set_option maxHeartbeats 8000000 in
theorem one_any (a b : Int) (w : World) : Calls Try.prog 3 #[.int .i64 a, .int .i64 b] w fun e w' => e = .returned (.bool true) ∧ Ext w w' := by
  obtain ⟨X, x0, x1, -, cX⟩ := within_ex a 1000 (by omega) (by omega)
  obtain ⟨Y, y0, y1, -, cY⟩ := within_ex b 1000 (by omega) (by omega)
  obtain ⟨M, hM⟩ : ∃ M : Nat, 1 + X = (M : Int) := ⟨(1 + X).toNat, by omega⟩
  obtain ⟨N, hN⟩ : ∃ N : Nat, 1 + Y = (N : Int) := ⟨(1 + Y).toNat, by omega⟩
  have hMN : M * N ≤ 1000 * 1000 := Nat.mul_le_mul (by omega) (by omega)
  have hMN0 : 1 ≤ M * N := Nat.mul_pos (by omega) (by omega)
  have hMNi : (M : Int) * (N : Int) = ((M * N : Nat) : Int) := (Int.natCast_mul M N).symm
  have f12 := hide (fun w : World => Factor_ok 12 (by omega) (by omega) w)
  have fM := hide (fun w : World => Factor_ok M (by omega) (by omega) w)
  have fN := hide (fun w : World => Factor_ok N (by omega) (by omega) w)
  have fP := hide (fun w : World => Factor_ok (M * N) hMN0 (by omega) w)
  have HPP := hide (rfl : M * N = M * N)
  have hP6 : M * N ≤ 1000000 := by omega
  generalize hPd : M * N = P at *
  have HPd := hide hPd
  clear HPP hPd hMN
  go_enter Try.func3, Try.ntmps3
  go_wp2_with fail
  refine (unhide f12 _).mono ?_
  rintro e w1 ⟨⟨l12, v, hl, rfl, hown⟩, E1⟩
  obtain rfl := Wm.fac_unique hl fac12_
  obtain ⟨A0, c0, rfl, R0, -⟩ := own_nil hown
  have HR0 := hide R0
  clear hown R0 hl f12
  have ce := hide (fun (B : Option Addr) (d : Nat) (w : World) (R : Row w A0 2 2 (prs [(2, 2), (3, 1)])) (S : Row w B 2 2 (prs [(2, 2), (3, 1)])) => equal_power A0 B 2 c0 d [(2, 2), (3, 1)] w R S (by omega))
  go_wp2_with fail
  refine (unhide ce _ _ _ ((unhide HR0).keep ((Ext.refl _).alloc _)) (row_new _ _ _ _ _ rfl)).mono ?_
  rintro e w2 ⟨rfl, hw2⟩
  have F2 : Ext w w2 := by
    obtain ⟨k, rfl⟩ := hw2
    exact (E1.alloc _).drewN _
  clear hw2
  clear ce HR0 E1
  go_wp2_with fail
  refine (unhide cX _).mono ?_
  rintro e w3 ⟨rfl, rfl⟩
  go_wp2_with fail
  refine (unhide cY _).mono ?_
  rintro e w4 ⟨rfl, rfl⟩
  clear cX cY
  go_wp2_with fail
  refine (unhide fM _).mono ?_
  rintro e w5 ⟨⟨lx, vx, hx, rfl, ox⟩, E5⟩
  go_wp2_with fail
  refine (unhide fN _).mono ?_
  rintro e w6 ⟨⟨ly, vy, hy, rfl, oy⟩, E6⟩
  go_wp2_with fail
  refine (unhide fP _).mono ?_
  rintro e w7 ⟨⟨lz, vz, hz, rfl, oz⟩, E7⟩
  clear fM fN fP
  have F7 := (((F2.trans E5).trans E6).trans E7)
  obtain ⟨A, cx, rfl, RX, NX⟩ := own_nil ox
  obtain ⟨B, cy, rfl, RY, NY⟩ := own_nil oy
  obtain ⟨C, cz, rfl, RZ, NZ⟩ := own_nil oz
  have HRX := hide ((RX.keep E6).keep E7)
  have HRY := hide (RY.keep E7)
  have HRZ := hide RZ
  have HNX := hide NX
  have HNY := hide NY
  clear ox oy oz RX RY RZ NX NY NZ E5 E6 E7 F2
  have lenb : ∀ {n : Nat} {l : List (Nat × Nat)}, Wm.IsFac n l → n ≤ 1000000 → l.length ≤ 1000000 := fun {n l} h hn => by
    have h1 := Wm.prodP_pos h.2.1
    rw [h.2.2] at h1
    have h2 : l.length < 2 ^ l.length := Nat.lt_two_pow_self
    omega
  have bx := lenb hx (by omega)
  have by_ := lenb hy (by omega)
  have bz := lenb hz hP6
  have HX := hide hx
  have HY := hide hy
  rw [← unhide HPd] at hz
  have HZ := hide hz
  clear hx hy hz lenb
  have hcnt := hide (fun (p : Nat) (hp : Wm.Prime p) => Wm.fac_mul (unhide HX) (unhide HY) (unhide HZ) hp)
  have lzx : lz.length = lz.length := rfl
  generalize hLx : lx.length = Lx at *
  generalize hLy : ly.length = Ly at *
  generalize hLz : lz.length = Lz at *
  have HLX := hide hLx
  have HLY := hide hLy
  have HLZ := hide hLz
  clear hLx hLy hLz lzx
  have cc := hide (fun (g : Nat) (W : World) (E : Ext w7 W) (hg : g < W.heap.size) (c0 : W.cell? ⟨g, 0, none⟩ = some (.slice A Lx cx)) (c1 : W.cell? ⟨g, 1, none⟩ = some (.slice B Ly cy)) =>
    concat_power g Lx cx Ly cy A B (prs (castP lx)) (prs (castP ly)) W hg c0 c1 ((unhide HRX).keep E) ((unhide HRY).keep E) (prs_one' _) (prs_one' _) (unhide HNX) (unhide HNY) (by omega) (by omega))
  clear HRX HRY HNX HNY
  go_wp2_with fail
  refine (good_made [0, 0, 0] _ _ _ _ rfl rfl (by decide)).mono ?_
  rintro e w8 ⟨rfl, rfl⟩
  have F8 := F7.alloc (.cells #[.int .i64 0, .int .i64 0, .int .i64 0] 23)
  have E78 : Ext w7 (w7.alloc (.cells #[.int .i64 0, .int .i64 0, .int .i64 0] 23)) := (Ext.refl _).alloc _
  go_wp2
  generalize w7.alloc (.cells #[.int .i64 0, .int .i64 0, .int .i64 0] 23) = w8 at *
  clear F7
  go_loopw [14, 15, 17, 65] (fun _ _ _ i wr => ∃ k : Nat, k ≤ Lz ∧ i = .int .i64 k ∧ Ext w8 wr) (fun _ _ _ i _ => Lz - (intOf i).toNat)
  case atStart => exact ⟨0, by omega, rfl, Ext.refl _⟩
  case round =>
    obtain ⟨k, hk, rfl, hext⟩ := hrel
    by_cases hlt : k < Lz
    · obtain ⟨b, o, rfl, hb, c1, c2⟩ := ((unhide HRZ).keep (E78.trans hext)).pair hlt
      have hkl : k < lz.length := by rw [unhide HLZ]; exact hlt
      rw [castP_get' lz k hkl] at c1 c2
      have hmem := getD_mem lz (0, 0) hkl
      have hpk := (unhide HZ).2.1 _ hmem
      have hval := unhide hcnt _ hpk.1
      rw [Wm.cnt_mem (unhide HZ).1 hmem] at hval
      obtain ⟨b1, b2, b3⟩ := fac_small' (unhide HZ) (by rw [unhide HPd]; exact hP6) hmem
      clear hmem hpk
      have HV := hide hval
      have hle := hide (fun j => cnt_take_le (lz.getD k (0, 0)).1 (lx ++ ly) j)
      clear hval
      generalize (lz.getD k (0, 0)).1 = p at *
      generalize (lz.getD k (0, 0)).2 = K at *
      go_wp2_with fail
      refine (unhide cc _ _ (((E78.trans hext).alloc _).alloc _) (by simp) (by simp) (by simp)).mono ?_
      rintro e w9 ⟨⟨v, rfl, own⟩, E9⟩
      obtain ⟨A1, d1, rfl, R1, -⟩ := own_nil own
      rw [prs_append, castP_append] at R1
      have hq0 := E9.keep (a := ⟨wr.heap.size, 0, none⟩) (v := .int .i64 (p : Int)) (by simp)
      have hq1 := E9.keep (a := ⟨wr.heap.size, 1, none⟩) (v := .int .i64 (K : Int)) (by simp)
      have G9 : Ext w8 w9 := ((hext.alloc _).alloc _).trans E9
      have HR1 := hide R1
      clear own R1 E9
      have hlxy : (lx ++ ly).length = Lx + Ly := by rw [List.length_append, unhide HLX, unhide HLY]
      have Q0 := hide (fun (W : World) (E : Ext w9 W) => (E.keep hq0 : W.cell? ⟨wr.heap.size, 0, none⟩ = some (.int .i64 (p : Int))))
      have Q1 := hide (fun (W : World) (E : Ext w9 W) => (E.keep hq1 : W.cell? ⟨wr.heap.size, 1, none⟩ = some (.int .i64 (K : Int))))
      clear hq0 hq1
      generalize wr.heap.size = g at *
      go_wp2
      go_loopw [15, 17, 74] (fun s _ i wz => ∃ j S : Nat, j ≤ Lx + Ly ∧ i = .int .i64 j ∧ s = .int .i64 S ∧ S ≤ 1000000 ∧ Hid (S = Wm.cnt p ((lx ++ ly).take j)) ∧ Ext w9 wz) (fun _ _ i _ => Lx + Ly - (intOf i).toNat)
      case atStart => exact ⟨0, 0, by omega, rfl, rfl, by omega, hide (by simp [Wm.cnt]), Ext.refl _⟩
      case round =>
        obtain ⟨j, S, hj, rfl, rfl, hS6, hS, hz⟩ := hrel
        have q0 := unhide Q0 _ hz
        have q1 := unhide Q1 _ hz
        by_cases hjt : j < Lx + Ly
        · have hjl : j < (lx ++ ly).length := by omega
          obtain ⟨b', o', rfl, hb', d1, d2⟩ := ((unhide HR1).keep hz).pair (by omega)
          rw [castP_get' _ j hjl] at d1 d2
          have hsucc := cnt_take_succ p (lx ++ ly) hjl
          have hle1 := unhide hle (j + 1)
          rw [← unhide HV] at hle1
          rw [hsucc] at hle1
          rw [← unhide hS] at hsucc hle1
          clear hjl
          have q0' := fun o : Obj => (World.cell?_alloc_lt wr o ⟨g, 0, none⟩ (World.block_lt_of_cell? _ ⟨g, 0, none⟩ (by rw [q0]))).trans q0
          generalize ((lx ++ ly).getD j (0, 0)).1 = q at *
          generalize ((lx ++ ly).getD j (0, 0)).2 = J at *
          by_cases he : q = p
          · rw [if_pos he] at hsucc hle1
            subst he
            have HS := hide hsucc.symm
            clear hsucc
            go_wp2
            go_roundw
            case rel => exact ⟨j + 1, S + J, by omega, by go_num, by go_num, by omega, HS, hz.alloc _⟩
            case measure => simp [intOf]; omega
          · rw [if_neg he] at hsucc hle1
            have HS := hide hsucc.symm
            clear hsucc
            have he1 : ¬ (q : Int) = (p : Int) := by omega
            have he2 : ((q : Int) == (p : Int)) = false := by rw [beq_eq_false_iff_ne]; exact he1
            clear he
            go_wp2
            go_roundw
            case rel => exact ⟨j + 1, S, by omega, by go_num, rfl, by omega, HS, hz.alloc _⟩
            case measure => simp [intOf]; omega
        · have hSK : S = K := by
            have h1 : j = (lx ++ ly).length := by omega
            have h2 := unhide hS
            rw [h1, List.take_length] at h2
            rw [h2, unhide HV]
          have hj1 : j = Lx + Ly := by omega
          clear hS hjt
          subst hSK hj1
          go_wp2
          go_roundw
          case rel => exact ⟨k + 1, by omega, by go_num, G9.trans hz⟩
          case measure => simp [intOf]; omega
    · obtain rfl : k = Lz := by omega
      clear hlt hk
      go_wp2_with fail
      refine (unhide cc _ _ ((E78.trans hext).alloc _) (by simp) (by simp) (by simp)).mono ?_
      rintro e w9 ⟨⟨v, rfl, own⟩, E9⟩
      obtain ⟨A1, d1, rfl, R1, -⟩ := own_nil own
      rw [prs_append, castP_append] at R1
      have G9 : Ext w8 w9 := (hext.alloc _).trans E9
      have HR1 := hide R1
      clear own R1 E9
      have hlxy : (lx ++ ly).length = Lx + Ly := by rw [List.length_append, unhide HLX, unhide HLY]
      go_wp2
      go_loopw [19, 98] (fun _ i wz => ∃ j : Nat, j ≤ Lx + Ly ∧ i = .int .i64 j ∧ Ext w9 wz) (fun _ i _ => Lx + Ly - (intOf i).toNat)
      case atStart => exact ⟨0, by omega, rfl, Ext.refl _⟩
      case round =>
        obtain ⟨j, hj, rfl, hz⟩ := hrel
        by_cases hjt : j < Lx + Ly
        · have hjl : j < (lx ++ ly).length := by omega
          obtain ⟨b', o', rfl, hb', d1, d2⟩ := ((unhide HR1).keep hz).pair (by omega)
          rw [castP_get' _ j hjl] at d1 d2
          have hany := hide (has_all (unhide HX) (unhide HY) (unhide hcnt) (getD_mem (lx ++ ly) (0, 0) hjl))
          generalize ((lx ++ ly).getD j (0, 0)).1 = q at *
          generalize ((lx ++ ly).getD j (0, 0)).2 = J at *
          have ch := hide (fun (W : World) (g : Nat) (E : Ext w7 W) (hg : W.cell? ⟨g, 0, none⟩ = some (.int .i64 (q : Int))) => has_contains C k cz (castP lz) ⟨g, 0, none⟩ W ((unhide HRZ).keep E) (fun x => x.1 == (q : Int)) (fun k hk W' E' => one1_any _ _ _ _ W' (E'.keep hg)) (by omega))
          rw [unhide hany] at ch
          go_wp2_with fail
          refine (unhide ch _ _ (((E78.trans G9).trans hz).alloc _) (by simp)).mono ?_
          rintro e w10 ⟨rfl, E10⟩
          go_wp2
          go_roundw
          case rel => exact ⟨j + 1, by omega, by go_num, (hz.alloc _).trans E10⟩
          case measure => simp [intOf]; omega
        · have hj1 : j = Lx + Ly := by omega
          clear hjt
          subst hj1
          go_wp2
          go_ret
          exact ⟨rfl, (F8.trans G9).trans hz⟩

end Go.Proofs.Yticphnjljnhlcaa
