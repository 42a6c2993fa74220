/-
  The walks of DividePairs and DivideTimes.
-/
import Derived.Test.YticphnjljnhlcaaDivs3
import Derived.Test.YticphnjljnhlcaaEuclid1
namespace Go.Proofs.Yticphnjljnhlcaa
open Go.RowKit Go.BigFrame

theorem Row.nat_all {w : World} {A : Option Addr} {n : Nat} {K : IntKind} {l : List Nat} (h : Row w A n 1 (nats K l)) (hn : 0 < n) : ∃ b o, A = some ⟨b, o, none⟩ ∧ b < w.heap.size ∧ ∀ k, k < n → w.cell? ⟨b, o + k, none⟩ = some (.int K ((l.getD k 0 : Nat) : Int)) := by
  obtain ⟨b, o, hA, hb, hc⟩ := h.2 hn
  exact ⟨b, o, hA, hb, fun k hk => (hc k (by omega)).trans (nats_get K l k (by have := h.numN; omega))⟩

/-- What divides comes in pairs. -/
theorem div_lt_div {n d e : Nat} (hn : 0 < n) (hd : d ∣ n) (he : e ∣ n) (h : d < e) : n / e < n / d := by
  obtain ⟨x, rfl⟩ := hd
  obtain ⟨y, hy⟩ := he
  have hd0 : 0 < d := Nat.pos_of_ne_zero fun h => by subst h; omega
  have he0 : 0 < e := by omega
  rw [Nat.mul_div_cancel_left _ hd0, hy, Nat.mul_div_cancel_left _ he0]
  rcases Nat.lt_or_ge y x with h1 | h1
  · exact h1
  · exfalso
    have hx0 : 0 < x := Nat.pos_of_ne_zero fun h => by subst h; omega
    have h2 : d * x < e * x := Nat.mul_lt_mul_of_pos_right h hx0
    have h3 : e * x ≤ e * y := Nat.mul_le_mul_left e h1
    omega
theorem pairs_eq {n : Nat} {T : List Nat} (hn : 0 < n) (hs : T.Pairwise (· < ·)) (hm : ∀ d, d ∈ T ↔ d ∣ n) : T.reverse.map (fun d => n / d) = T := by
  have hp : (T.reverse.map fun d => n / d).Pairwise (· < ·) := by
    rw [List.pairwise_map, List.pairwise_reverse]
    exact hs.imp_of_mem fun {a b} ha hb h => div_lt_div hn ((hm a).1 ha) ((hm b).1 hb) h
  refine sorted_unique hp hs ((List.perm_ext_iff_of_nodup (hp.imp fun {a b} h => by omega) (hs.imp fun {a b} h => by omega)).2 fun e => ?_)
  rw [List.mem_map]
  constructor
  · rintro ⟨d, hd, rfl⟩
    exact (hm _).2 (Nat.div_dvd_of_dvd ((hm d).1 (List.mem_reverse.1 hd)))
  · intro he
    have he' := (hm e).1 he
    exact ⟨n / e, List.mem_reverse.2 ((hm _).2 (Nat.div_dvd_of_dvd he')), Nat.div_div_self he' (by omega)⟩
theorem pairs_get {n : Nat} {T : List Nat} (hn : 0 < n) (hs : T.Pairwise (· < ·)) (hm : ∀ d, d ∈ T ↔ d ∣ n) {k j : Nat} (hk : k < T.length) (hj : j + k + 1 = T.length) : T.getD j 0 = n / T.getD k 0 := by
  have h := congrArg (fun L => L.getD j 0) (pairs_eq hn hs hm)
  simp only [List.getD_eq_getElem?_getD] at h ⊢
  rw [← h, List.getElem?_map, List.getElem?_reverse (by omega), show T.length - 1 - j = k by omega, List.getElem?_eq_getElem hk]
  rfl
theorem get_lt {T : List Nat} (hs : T.Pairwise (· < ·)) {i j : Nat} (hj : j < T.length) (h : i < j) : T.getD i 0 < T.getD j 0 := by
  rw [List.getD_eq_getElem?_getD, List.getD_eq_getElem?_getD, List.getElem?_eq_getElem (by omega), List.getElem?_eq_getElem hj]
  exact List.pairwise_iff_getElem.1 hs i j (by omega) hj h
/-- An odd number of divisors, just of a square. -/
theorem odd_square {n : Nat} {T : List Nat} (hn : 0 < n) (hs : T.Pairwise (· < ·)) (hm : ∀ d, d ∈ T ↔ d ∣ n) : T.length % 2 = 1 ↔ ∃ r, r * r = n := by
  constructor
  · intro h
    have hk : T.length / 2 < T.length := by omega
    have h1 := pairs_get hn hs hm (k := T.length / 2) (j := T.length / 2) hk (by omega)
    have h2 := (hm _).1 (getD_mem T 0 hk)
    refine ⟨T.getD (T.length / 2) 0, ?_⟩
    generalize T.getD (T.length / 2) 0 = d at *
    obtain ⟨x, rfl⟩ := h2
    have hd0 : 0 < d := Nat.pos_of_ne_zero fun h => by subst h; omega
    rw [Nat.mul_div_cancel_left _ hd0] at h1
    rw [← h1]
  · rintro ⟨r, rfl⟩
    have hr0 : 0 < r := Nat.pos_of_ne_zero fun h => by subst h; omega
    obtain ⟨k, hk, hkr⟩ := List.getElem_of_mem ((hm r).2 ⟨r, rfl⟩)
    have h1 := pairs_get hn hs hm (k := k) (j := T.length - 1 - k) hk (by omega)
    have hg : T.getD k 0 = r := by rw [List.getD_eq_getElem?_getD, List.getElem?_eq_getElem hk]; exact hkr
    rw [hg, Nat.mul_div_cancel_left _ hr0] at h1
    rcases Nat.lt_trichotomy k (T.length - 1 - k) with h2 | h2 | h2
    · have := get_lt hs (by omega) h2; omega
    · omega
    · have := get_lt hs hk h2; omega

set_option maxRecDepth 100000 in
set_option maxHeartbeats 4000000 in
theorem dpairs_any (n : Int) (w : World) :
    Calls Try.prog 7 #[.int .i64 n] w fun e w' => e = .returned (.bool true) ∧ Ext w w' := by
  by_cases hb : n < 1 ∨ 1000000 < n
  · have cb := hide (fun w : World => Divisors_bad n hb w)
    clear hb
    go_enter Try.func7, Try.ntmps7
    go_wp2_with fail
    refine (divides_any _).mono ?_
    rintro e w2 ⟨rfl, E2⟩
    go_wp2_with fail
    refine (unhide cb _).mono ?_
    rintro e w3 ⟨rfl, rfl⟩
    go_wp2
    go_ret
    exact ⟨rfl, E2⟩
  · obtain ⟨N, rfl⟩ := Int.eq_ofNat_of_zero_le (show 0 ≤ n by omega)
    have h1 : 1 ≤ N := by omega
    have h6 : N ≤ 1000000 := by omega
    have cd := hide (fun w : World => Divisors_ok N h1 h6 w)
    clear hb
    go_enter Try.func7, Try.ntmps7
    go_wp2_with fail
    refine (divides_any _).mono ?_
    rintro e w2 ⟨rfl, E2⟩
    go_wp2_with fail
    refine (unhide cd _).mono ?_
    rintro e w3 ⟨⟨l, T, v, hfac, hT, hlt, rfl, hm⟩, E3⟩
    obtain ⟨A, c, rfl, R, -⟩ := hm.open_
    have hmem : ∀ d, d ∈ T ↔ d ∣ N := fun d => by rw [hT.mem_iff, Wm.mem_dv hfac.good, hfac.2.2]
    have hlen := divs_len hfac hT
    have hl0 : 0 < T.length := List.length_pos_of_mem ((hmem 1).2 (Nat.one_dvd _))
    obtain ⟨b, o, rfl, hb, hc⟩ := R.nat_all hl0
    have HODD := hide (odd_square h1 hlt hmem)
    have HB := hide (fun k (hk : k < T.length) => div_bound hfac hT h1 hk)
    have HC := hide hc
    have HP := hide (fun (k j : Nat) (hk : k < T.length) (hj : j + k + 1 = T.length) => pairs_get h1 hlt hmem hk hj)
    have HL := hide (fun (i j : Nat) (hj : j < T.length) (h : i < j) => get_lt hlt hj h)
    have F3 := E2.trans E3
    clear cd hfac hT hlt hm R hmem hc E2 E3
    generalize T.length = L at *
    go_wp2
    go_loopw [22] (fun i wr => ∃ k : Nat, k ≤ L ∧ i = .int .i64 k ∧ Ext w3 wr) (fun i _ => L - (intOf i).toNat)
    case atStart => exact ⟨0, by omega, rfl, Ext.refl _⟩
    case round =>
      obtain ⟨k, hk, rfl, hext⟩ := hrel
      by_cases hlt : k < L
      · have c0 := fun k hk => (hext.cell (p := ⟨b, o + k, none⟩) hb).trans (unhide HC k hk)
        obtain ⟨J, hJ⟩ : ∃ J, J + k + 1 = L := ⟨L - 1 - k, by omega⟩
        have c1 := c0 k hlt
        have c2 := c0 J (by omega)
        have hd := unhide HB k hlt
        have hp := unhide HP k J hlt hJ
        rw [hp] at c2
        have hJi : (L : Int) - 1 - (k : Int) = (J : Int) := by omega
        have hJl : J < L := by omega
        obtain ⟨d, hdd⟩ : ∃ d, d = T.getD k 0 := ⟨_, rfl⟩
        rw [← hdd] at c1 c2 hd
        obtain ⟨q, hq⟩ : ∃ q, N / d = q := ⟨_, rfl⟩
        rw [hq] at c2
        have hqt : (N : Int).tdiv (d : Int) = (q : Int) := by rw [← hq]; rfl
        have hqi : (N : Int) / (d : Int) = (q : Int) := by rw [← hq]; rfl
        obtain ⟨z, hz⟩ : ∃ z, N % d = z := ⟨_, rfl⟩
        have hz0 := hz.symm.trans (Nat.mod_eq_zero_of_dvd hd.2.2)
        have hrt : (N : Int).tmod (d : Int) = (z : Int) := by rw [← hz]; rfl
        have hri : (N : Int) % (d : Int) = (z : Int) := by rw [← hz]; rfl
        have hz1 : ((z : Int) != 0) = false := by rw [hz0]; rfl
        have hz2 : (z != 0) = false := by rw [hz0]; rfl
        have hz3 : (z : Int) ≤ 1000000 := by omega
        clear hz hz0
        have d0 : ((d : Int) == 0) = false := by rw [beq_eq_false_iff_ne]; omega
        have d0' : ¬ (d : Int) = 0 := by omega
        have d1 : decide ((d : Int) < 1) = false := decide_eq_false (by omega)
        have d1' : decide (d < 1) = false := decide_eq_false (by omega)
        have hd6 : (d : Int) ≤ 1000000 := by omega
        have hd2 : 1 ≤ (d : Int) := by omega
        have hq6 : (q : Int) ≤ 1000000 := by
          have : N / d ≤ N := Nat.div_le_self _ _
          omega
        rcases Nat.eq_zero_or_pos k with rfl | hk0
        · clear hd hp hdd hq c0
          rw [Nat.add_zero] at c1
          have c2' := c2
          rw [show J = L - 1 by omega] at c2'
          go_wp2
          go_quiet (fail)
          go_wp2
          go_roundw
          case rel => exact ⟨0 + 1, by omega, by go_num, (by repeat (first | exact hext | refine Ext.alloc ?_ _ | refine Ext.drew ?_ | refine Ext.drewN ?_ _ | (refine Ext.trans ?_ (plus_ext _ _)) | (refine Ext.setCell ?_ (by have := Ext.size hext; simp; omega) _)))⟩
          case measure => simp [intOf]; omega
        · obtain ⟨m, hmk⟩ : ∃ m, k = m + 1 := ⟨k - 1, by omega⟩
          have c3 := c0 m (by omega)
          have hml := unhide HL m k hlt (by omega)
          rw [← hdd] at hml
          obtain ⟨u, hu⟩ : ∃ u, u = T.getD m 0 := ⟨_, rfl⟩
          rw [← hu] at c3 hml
          have e1 : decide ((d : Int) ≤ (u : Int)) = false := decide_eq_false (by omega)
          have e2 : decide (d ≤ u) = false := decide_eq_false (by omega)
          have e3 : (k : Int) - 1 = (m : Int) := by omega
          have e4 : 0 < (k : Int) := by omega
          have e5 : decide (0 < (k : Int)) = true := decide_eq_true e4
          have hml' : m < L := by omega
          have c2' := c2
          rw [show J = L - 1 - k by omega] at c2'
          have c3' := c3
          rw [show m = k - 1 by omega] at c3'
          clear hmk hd hp hdd hq c0 hu
          go_wp2
          go_quiet (fail)
          go_wp2
          go_roundw
          case rel => exact ⟨k + 1, by omega, by go_num, (by repeat (first | exact hext | refine Ext.alloc ?_ _ | refine Ext.drew ?_ | refine Ext.drewN ?_ _ | (refine Ext.trans ?_ (plus_ext _ _)) | (refine Ext.setCell ?_ (by have := Ext.size hext; simp; omega) _)))⟩
          case measure => simp [intOf]; omega
      · obtain rfl : L = k := by omega
        clear HB HC HP HL hb hlen hl0
        go_wp2
        go_loopw [7] (fun i wq => ∃ r : Nat, r ≤ 1000 ∧ i = .int .i64 r ∧ Hid (r * r ≤ N) ∧ wq = wr) (fun i _ => 1001 - (intOf i).toNat)
        case atStart => exact ⟨0, by omega, rfl, hide (by omega), rfl⟩
        case round =>
          obtain ⟨r, hr, rfl, hrr, rfl⟩ := hrel
          obtain ⟨s, hs⟩ : ∃ s, s = (r + 1) * (r + 1) := ⟨_, rfl⟩
          have hsi : ((r : Int) + 1) * ((r : Int) + 1) = (s : Int) := by rw [hs]; push_cast; rfl
          have hs6 : s ≤ 1002001 := by rw [hs]; exact Nat.le_trans (Nat.mul_le_mul (show r + 1 ≤ 1001 by omega) (show r + 1 ≤ 1001 by omega)) (by omega)
          by_cases hle : s ≤ N
          · have hr' : r + 1 ≤ 1000 := by
              rcases Nat.lt_or_ge r 1000 with h | h
              · omega
              · have : 1001 * 1001 ≤ (r + 1) * (r + 1) := Nat.mul_le_mul (by omega) (by omega)
                omega
            have hn := hide (show (r + 1) * (r + 1) ≤ N by omega)
            clear hs
            go_wp2
            go_roundw
            case rel => exact ⟨r + 1, hr', by go_num, hn, trivial⟩
            case measure => simp [intOf]; omega
          · have hgt : N < (r + 1) * (r + 1) := by omega
            have hiff : (L % 2 = 1) ↔ r * r = N := (unhide HODD).trans ⟨fun ⟨x, hx⟩ => by
              have h2 := unhide hrr
              have : x < r + 1 := by
                rcases Nat.lt_or_ge x (r + 1) with h | h
                · exact h
                · have := Nat.mul_le_mul h h; omega
              rcases Nat.lt_or_ge x r with h | h
              · have := Nat.mul_lt_mul'' h h; omega
              · have : x = r := by omega
                rw [← this]; exact hx, fun h => ⟨r, h⟩⟩
            obtain ⟨t, ht⟩ : ∃ t, t = r * r := ⟨_, rfl⟩
            have hti : (r : Int) * (r : Int) = (t : Int) := by rw [ht]; push_cast; rfl
            have ht6 : t ≤ 1000000 := by have := unhide hrr; omega
            rw [← ht] at hiff
            by_cases hodd : L % 2 = 1
            · have hx := hiff.1 hodd
              subst hx
              have b1 : (L : Int) % 2 = 1 := by omega
              have b2 : (L : Int).tmod 2 = 1 := by
                have h : (L : Int).tmod 2 = ((L % 2 : Nat) : Int) := rfl
                omega
              clear hs ht hiff hgt hodd
              go_wp2
              go_ret
              exact ⟨rfl, F3.trans hext⟩
            · have hx : ¬ t = N := fun h => hodd (hiff.2 h)
              have b1 : (L : Int) % 2 = 0 := by omega
              have b2 : (L : Int).tmod 2 = 0 := by
                have h : (L : Int).tmod 2 = ((L % 2 : Nat) : Int) := rfl
                omega
              have b3 : ((t : Int) == (N : Int)) = false := by rw [beq_eq_false_iff_ne]; omega
              have b4 : (t == N) = false := by rw [beq_eq_false_iff_ne]; exact hx
              clear hs ht hiff hgt hodd hx
              go_wp2
              go_ret
              exact ⟨rfl, F3.trans hext⟩

end Go.Proofs.Yticphnjljnhlcaa
