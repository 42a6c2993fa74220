/-
  The contracts of package square: legendre, Symbol, Root.
-/
import Derived.Test.YtdcpijodoppncaaFactor1
import Derived.Test.YtdcpijodoppncaaRest1
import Derived.Test.YtdcpijodoppncaaPrime1
set_option linter.unusedVariables false
set_option linter.unusedSimpArgs false
namespace Go.Proofs.Ytdcpijodoppncaa
open Go.RowKit Go.BigFrame

/-- LEGENDRE's symbol as the program has it. -/
def leg (p : Nat) (a : Int) : Int := if a ^ ((p - 1) / 2) % (p : Int) = 0 then 0 else if a ^ ((p - 1) / 2) % (p : Int) = 1 then 1 else -1
theorem leg_bound (p : Nat) (a : Int) : -1 ≤ leg p a ∧ leg p a ≤ 1 := by
  unfold leg; split
  · omega
  · split <;> omega
def jac (a : Int) : List (Nat × Nat) → Int
  | [] => 1
  | x :: l => leg x.1 a ^ x.2 * jac a l
theorem jac_append (a : Int) : ∀ l m, jac a (l ++ m) = jac a l * jac a m
  | [], m => by simp [jac]
  | x :: l, m => by simp only [List.cons_append, jac, jac_append a l m, Int.mul_assoc]
theorem one_mul_bound {x y : Int} (hx : -1 ≤ x ∧ x ≤ 1) (hy : -1 ≤ y ∧ y ≤ 1) : -1 ≤ x * y ∧ x * y ≤ 1 := by
  obtain ⟨x1, x2⟩ := hx
  have : x = -1 ∨ x = 0 ∨ x = 1 := by omega
  rcases this with rfl | rfl | rfl <;> omega
theorem pow_bound {x : Int} (hx : -1 ≤ x ∧ x ≤ 1) : ∀ k : Nat, -1 ≤ x ^ k ∧ x ^ k ≤ 1
  | 0 => by simp
  | k + 1 => by rw [Int.pow_succ]; exact one_mul_bound (pow_bound hx k) hx
theorem jac_bound (a : Int) : ∀ l, -1 ≤ jac a l ∧ jac a l ≤ 1
  | [] => by simp [jac]
  | x :: l => one_mul_bound (pow_bound (leg_bound x.1 a) x.2) (jac_bound a l)

set_option maxHeartbeats 1000000 in
theorem leg_any (a : Int) (p : Nat) (q : Addr) (w : World) (hq : w.cell? q = some (.int .i64 p)) (h1 : 1 ≤ (p : Int)) (h6 : (p : Int) ≤ 1000000) :
    Calls Try.prog 39 #[.int .i64 a, .pointer (some q)] w fun e w' => e = .returned (.int .i64 (leg p a)) ∧ ∃ n, w' = w.drewN n := by
  have c1 := fun w : World => pow_ok a ((p - 1) / 2) p w (by omega) h1 h6
  rw [show (((p - 1) / 2 : Nat) : Int) = ((p : Int) - 1) / 2 by omega] at c1
  have C1 := hide c1
  have hv : leg p a = (if a ^ ((p - 1) / 2) % (p : Int) = 0 then 0 else if a ^ ((p - 1) / 2) % (p : Int) = 1 then 1 else -1) := rfl
  have HV := hide hv
  clear c1 hv
  generalize a ^ ((p - 1) / 2) % (p : Int) = z at *
  by_cases h0 : z = 0
  · subst h0
    have HV' := hide ((unhide HV).trans (if_pos rfl))
    clear HV
    go_enter Try.func39, Try.ntmps39
    go_wp2_with fail
    refine (unhide C1 _).mono ?_
    rintro e w1 ⟨rfl, n1, rfl⟩
    go_wp2
    go_ret
    exact ⟨ret_int (unhide HV').symm, _, rfl⟩
  · by_cases h2 : z = 1
    · subst h2
      have HV' := hide (((unhide HV).trans (if_neg (by omega))).trans (if_pos rfl))
      clear HV h0
      go_enter Try.func39, Try.ntmps39
      go_wp2_with fail
      refine (unhide C1 _).mono ?_
      rintro e w1 ⟨rfl, n1, rfl⟩
      go_wp2
      go_ret
      exact ⟨ret_int (unhide HV').symm, _, rfl⟩
    · have HV' := hide (((unhide HV).trans (if_neg h0)).trans (if_neg h2))
      have b0 : (z == 0) = false := by rw [beq_eq_false_iff_ne]; exact h0
      have b1 : (z == 1) = false := by rw [beq_eq_false_iff_ne]; exact h2
      clear HV h0 h2
      go_enter Try.func39, Try.ntmps39
      go_wp2_with fail
      refine (unhide C1 _).mono ?_
      rintro e w1 ⟨rfl, n1, rfl⟩
      go_wp2
      go_ret
      exact ⟨ret_int (unhide HV').symm, _, rfl⟩

theorem legendre_any (p : Int) (w : World) :
    Calls Try.prog 35 #[.int .i64 p] w fun e w' => e = .returned (.func (.func 39) #[] #[.pointer (some ⟨w.heap.size, 0, none⟩)]) ∧ w' = w.alloc (.cells #[.int .i64 p] 3) := by
  have hmf : ∀ (fn : Fn) (first cap : Array Value) (w : World), (Instr.makeFunc fn first cap).run Try.prog w = .ok (.func fn first cap) w := fun _ _ _ _ => rfl
  go_enter Try.func35, Try.ntmps35
  go_wp2
  go_ret
  exact ⟨rfl, rfl⟩

def SymPost (a : Int) (n : Nat) (e : Ending) : Prop := ∃ l, Wm.IsFac n l ∧ e = .returned (.tuple #[.int .i64 (jac a l), .int .i64 0])

theorem castP_get (l : List (Nat × Nat)) (k : Nat) (h : k < l.length) : (castP l).getD k (0, 0) = (((l.getD k (0, 0)).1 : Int), ((l.getD k (0, 0)).2 : Int)) := by
  simp [castP, List.getD_eq_getElem?_getD, List.getElem?_eq_getElem h]

theorem fac_small {n : Nat} {l : List (Nat × Nat)} (h : Wm.IsFac n l) (hn : n ≤ 1000000) {x : Nat × Nat} (hx : x ∈ l) : 2 ≤ x.1 ∧ x.1 ≤ 1000000 ∧ x.2 ≤ 1000000 := by
  have hp := h.2.1 x hx
  have hdv : x.1 ^ x.2 ∣ n := by
    rw [← h.2.2]
    clear h hp
    induction l with
    | nil => simp at hx
    | cons y l ih =>
      simp only [List.mem_cons] at hx
      rcases hx with rfl | hx
      · exact Nat.dvd_mul_right _ _
      · exact Nat.dvd_trans (ih hx) (Nat.dvd_mul_left _ _)
  have hn0 : 0 < n := by
    rw [← h.2.2]
    exact Nat.lt_of_lt_of_le (Nat.two_pow_pos _) (Wm.prodP_pos h.2.1)
  have h1 := Nat.le_of_dvd hn0 hdv
  have h2 : 2 ≤ x.1 := hp.1.1
  have h3 : x.1 ≤ x.1 ^ x.2 := Nat.le_self_pow (by omega) _
  have h4 : 2 ^ x.2 ≤ x.1 ^ x.2 := Nat.pow_le_pow_left h2 _
  have h5 : x.2 < 2 ^ x.2 := Nat.lt_two_pow_self
  omega

set_option maxRecDepth 100000 in
set_option maxHeartbeats 4000000 in
theorem Symbol_ok (a : Int) (n : Nat) (w : World) (h1 : 1 ≤ n) (h6 : n ≤ 1000000) (ho : n % 2 = 1) :
    Calls Try.prog 19 #[.int .i64 a, .int .i64 n] w fun e w' => SymPost a n e ∧ Ext w w' := by
  have cf := hide (fun w : World => Factor_ok n h1 h6 w)
  have ho' : ((n : Int) % 2 == 0) = false := by rw [beq_eq_false_iff_ne]; omega
  go_enter Try.func19, Try.ntmps19
  go_wp2_with fail
  refine (unhide cf _).mono ?_
  rintro e w1 ⟨⟨l, v, hfac, rfl, hown⟩, E1⟩
  obtain ⟨A, c, rfl, R, -⟩ := row_of_own hown
  have HR := hide R
  have hln : (l.length : Int) ≤ 1000000 := by
    have := Wm.prodP_pos hfac.2.1
    rw [hfac.2.2] at this
    have h5 : l.length < 2 ^ l.length := Nat.lt_two_pow_self
    omega
  have HFAC := hide hfac
  generalize hL : l.length = L at *
  have HL := hide hL
  clear hown R cf ho hfac hL
  go_wp2
  go_loopw [8, 30] (fun s i wr => ∃ (k : Nat) (z : Int), k ≤ L ∧ i = .int .i64 k ∧ s = .int .i64 z ∧ -1 ≤ z ∧ z ≤ 1 ∧ Hid (z = jac a (l.take k)) ∧ Ext w1 wr) (fun _ i _ => L - (intOf i).toNat)
  case atStart => exact ⟨0, 1, by omega, rfl, rfl, by omega, by omega, hide (by simp [jac]), Ext.refl _⟩
  case round =>
    obtain ⟨k, z, hk, rfl, rfl, hz1, hz2, hz, hext⟩ := hrel
    by_cases hlt : k < L
    · obtain ⟨b, o, rfl, hb, c1, c2⟩ := ((unhide HR).keep hext).pair hlt
      have hkl : k < l.length := by rw [unhide HL]; exact hlt
      rw [castP_get l k hkl] at c1 c2
      have hmem := getD_mem l (0, 0) hkl
      obtain ⟨b1, b2, b3⟩ := fac_small (unhide HFAC) h6 hmem
      have hst : jac a (l.take (k + 1)) = jac a (l.take k) * leg (l.getD k (0, 0)).1 a ^ (l.getD k (0, 0)).2 := by
        rw [take_snoc l (0, 0) hkl, jac_append]
        simp [jac]
      have HST := hide hst
      clear hst hmem hkl
      generalize (l.getD k (0, 0)).1 = P at *
      generalize (l.getD k (0, 0)).2 = K at *
      have cl := hide (fun (w : World) (q : Addr) (hq : w.cell? q = some (.int .i64 P)) => leg_any a P q w hq (by omega) (by omega))
      have lb := leg_bound P a
      generalize hS : leg P a = S at *
      have HS := hide hS
      clear hS
      go_wp2_with fail
      refine (legendre_any _ _).mono ?_
      rintro e w2 ⟨rfl, rfl⟩
      go_wp2_with fail
      refine (unhide cl _ _ (by simp [go_sem])).mono ?_
      rintro e w3 ⟨rfl, n3, rfl⟩
      have hb1 := lb.1
      have hb2 := lb.2
      go_wp2
      go_loop [8, 41] (fun s i => ∃ (t : Nat) (y : Int), t ≤ K ∧ i = .int .i64 t ∧ s = .int .i64 y ∧ -1 ≤ y ∧ y ≤ 1 ∧ Hid (y = z * S ^ t)) (fun _ i => K - (intOf i).toNat)
      case atStart => exact ⟨0, z, by omega, rfl, rfl, hz1, hz2, hide (by simp)⟩
      case round =>
        obtain ⟨t, y, ht, rfl, rfl, hy1, hy2, hy⟩ := hrel
        by_cases htl : t < K
        · have hm := one_mul_bound ⟨hy1, hy2⟩ lb
          have hm1 := hm.1
          have hm2 := hm.2
          have hn := hide (show y * S = z * S ^ (t + 1) by rw [Int.pow_succ, ← Int.mul_assoc, ← unhide hy])
          go_wp2
          go_round
          case rel => exact ⟨t + 1, y * S, by omega, by go_num, rfl, hm1, hm2, hn⟩
          case measure => simp [intOf]; omega
        · obtain rfl : t = K := by omega
          have hn := hide (show y = jac a (l.take (k + 1)) from (unhide hy).trans ((congrArg (· * S ^ t) (unhide hz)).trans (unhide HST).symm))
          have hx := (hext.alloc (.cells #[.int .i64 P, .int .i64 t] 43)).alloc (.cells #[.int .i64 P] 3)
          go_wp2
          go_roundw
          case rel => exact ⟨k + 1, y, by omega, by go_num, rfl, hy1, hy2, hn, hx.drewN _⟩
          case measure => simp [intOf]; omega
    · obtain rfl : k = L := by omega
      have hf := hide (show z = jac a l by rw [unhide hz, ← unhide HL, List.take_length])
      go_wp2
      go_ret2
      exact ⟨⟨l, unhide HFAC, ret_two (unhide hf)⟩, E1.trans hext⟩

def RootPost (a : Int) (p : Nat) (e : Ending) : Prop :=
  (∃ x : Nat, x < p ∧ ((x * x % p : Nat) : Int) = a % (p : Int) ∧ (∀ y, y < x → ((y * y % p : Nat) : Int) ≠ a % (p : Int)) ∧ e = .returned (.tuple #[.int .i64 x, .int .i64 0])) ∨
    ((∀ y, y < p → ((y * y % p : Nat) : Int) ≠ a % (p : Int)) ∧ e = .returned (.tuple #[.int .i64 0, .int .i64 4]))

set_option maxRecDepth 100000 in
set_option maxHeartbeats 2000000 in
theorem Root_ok (a : Int) (p : Nat) (w : World) (hp : Wm.Prime p) (h6 : p ≤ 1000000) :
    Calls Try.prog 20 #[.int .i64 a, .int .i64 p] w fun e w' => RootPost a p e ∧ Ext w w' := by
  have hp1 := hp.1
  have c1 := fun w : World => Is_ok p h6 w
  rw [Wm.isp_true hp] at c1
  have C1 := hide c1
  have C2 := hide (fun w : World => of_ok a p w (by omega) (by omega))
  have hb := Wm.emod_bound a (show (0 : Int) < (p : Int) by omega)
  obtain ⟨b1, b2⟩ := hb
  have HPO := hide (rfl : RootPost a p = RootPost a p)
  clear c1 HPO
  obtain ⟨T, hT⟩ : ∃ T : Nat, a % (p : Int) = (T : Int) := ⟨(a % (p : Int)).toNat, by omega⟩
  unfold RootPost
  rw [hT] at b1 b2 ⊢
  have C2 := fun w : World => unhide C2 w
  rw [hT] at C2
  have C2 := hide C2
  clear hT hp hp1
  have q1 : 1 ≤ (p : Int) := by omega
  have q0 : ¬ (p : Int) = 0 := by omega
  have q6 : (p : Int) ≤ 1000000 := by omega
  go_enter Try.func20, Try.ntmps20
  go_wp2_with fail
  refine (unhide C1 _).mono ?_
  rintro e w1 ⟨rfl, rfl⟩
  go_wp2_with fail
  refine (unhide C2 _).mono ?_
  rintro e w2 ⟨rfl, rfl⟩
  go_wp2_with fail
  go_loop [27] (fun i => ∃ k : Nat, k ≤ p ∧ i = .int .i64 k ∧ Hid (∀ y, y < k → ((y * y % p : Nat) : Int) ≠ (T : Int))) (fun i => p - (intOf i).toNat)
  case atStart => exact ⟨0, by omega, rfl, hide (fun y h => absurd h (by omega))⟩
  case round =>
    obtain ⟨k, hk, rfl, hz⟩ := hrel
    by_cases hlt : k < p
    · have hkk : ((k * k : Nat) : Int) = (k : Int) * (k : Int) := Int.natCast_mul k k
      have hb0 : k * k ≤ 1000000 * 1000000 := Nat.mul_le_mul (by omega) (by omega)
      obtain ⟨Z, hZ⟩ : ∃ Z, k * k % p = Z := ⟨_, rfl⟩
      have hm : (k : Int) * (k : Int) % (p : Int) = (Z : Int) := by rw [← hkk, ← hZ]; rfl
      have hk0 : 0 ≤ (k : Int) * (k : Int) := by omega
      have hk1 : (k : Int) * (k : Int) ≤ 1000000000000 := by omega
      have HZ := hide hZ
      clear hkk hb0 hZ
      by_cases he : Z = T
      · have hb : ((Z : Int) == (T : Int)) = true := by rw [he]; simp
        have hb' : (Z == T) = true := by rw [he]; simp
        have HE := hide he
        clear he
        go_wp2
        go_ret2
        exact ⟨.inl ⟨k, hlt, by have h1 := unhide HZ; rw [unhide HE] at h1; have := congrArg (fun x : Nat => (x : Int)) h1; simpa using this, unhide hz, rfl⟩, Ext.refl _⟩
      · have hb : ((Z : Int) == (T : Int)) = false := by rw [beq_eq_false_iff_ne]; omega
        have hb' : (Z == T) = false := by rw [beq_eq_false_iff_ne]; omega
        have hz' := hide (fun y (hy : y < k + 1) => (show ((y * y % p : Nat) : Int) ≠ (T : Int) from by
          by_cases h : y < k
          · exact unhide hz y h
          · obtain rfl : y = k := by omega
            rw [unhide HZ]; omega))
        clear he
        go_wp2
        go_round
        case rel => exact ⟨k + 1, by omega, by go_num, hz'⟩
        case measure => simp [intOf]; omega
    · obtain rfl : k = p := by omega
      go_wp2
      go_ret2
      exact ⟨.inr ⟨unhide hz, rfl⟩, Ext.refl _⟩

end Go.Proofs.Ytdcpijodoppncaa
