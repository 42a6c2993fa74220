/-
  The contract of (*Store).torn.
-/
import Derived.Test.YthmmofalepckgaaSto8
set_option linter.unusedVariables false
set_option linter.unusedSimpArgs false
namespace Go.Proofs.Ythmmofalepckgaa
open Go.RowKit Go.BigFrame

/-- append to a row of the call's own, as one step of a region that draws its order; where the new row lies. -/
theorem step_app_at {P : Program} {ops : Array Oper} {o : Oper} {a : Act} {w : World} {K : Act → World → Prop} {Q : Exit → Act → World → Prop} {E : Prop}
    (hg : o.guard = none) (s x : Operand) (t : TypeId) (ho : o.op = .call { callee := .builtin .append, args := #[s, x], argTypes := #[t, t] })
    {e : TypeId} {z : Value} {size bytes : Nat} (hI : EInfo P t e z size bytes) {base : Nat} {v : Value} {n : Nat} {xs : List Value} (hs : a.eval s = v) (hown : w.ownsRow base e size v n xs)
    {ad : Addr} {m c : Nat} (news : List Value) (hx : a.eval x = .slice (some ad) m c) (hl : news.length = m * size) (hcell : ∀ k u, news[k]? = some u → w.cell? (ad.add k) = some u) (h1 : news.all (fun u => u.oneCell') = true)
    (hb : (n + m) * bytes ≤ 140737488355328 ∧ n + m ≤ 9223372036854775807) (hbase : base ≤ w.heap.size)
    (h : ∀ v' w', w'.ownsRow base e size v' (n + m) (xs ++ news) → w.grownBy w' v.ownBlock → (v'.ownBlock = v.ownBlock ∨ v'.ownBlock = some w.heap.size) → K (a.put o.dst v') w') :
    if Region.wanted o (yielded ops a.tmps) = true then Oper.wp P o a w K Q else E := by
  have hw : Region.wanted o (yielded ops a.tmps) = true := by simp [Region.wanted, hg]
  rw [if_pos hw]
  obtain ⟨ht, ⟨j, hj, hz, hsz, hby⟩, hzs, hsz0⟩ := hI
  obtain ⟨v', w', hr, h2, h3, h4, h5⟩ := run_append_own_at (P := P) w base t o.type e j z size bytes ht hj hz hsz hby hzs hsz0 v n xs hown ad m c news hl hcell (fun u hu => List.all_eq_true.1 h1 u hu) (by unfold maxLen; omega) (by omega) hbase
  unfold Oper.wp execOp
  simp only [ho, resolve, invoke, builtin, Sem.run_bind, Sem.run_pure, Result.andThen_ok, List.map_toArray, List.map_cons, List.map_nil, hs, hx, hr]
  exact h v' w' h2 h3 h5
/-- What several ways come to, each with a value and a world of its own, is shown once. -/
theorem share2 {A G : Value → World → Prop} {q : Prop} (h1 : (∀ v' w', A v' w' → G v' w') → q) (h2 : ∀ v' w', A v' w' → G v' w') : q := h1 h2
theorem share3 {A G : Nat → Nat → World → Prop} {q : Prop} (h1 : (∀ b c w', A b c w' → G b c w') → q) (h2 : ∀ b c w', A b c w' → G b c w') : q := h1 h2
theorem fresh_cells (w : World) (cs : Array Value) (T : TypeId) (k : Nat) (u : Value) (h : cs.toList[k]? = some u) : (w.alloc (.cells cs T)).cell? ((⟨w.heap.size, 0, none⟩ : Addr).add k) = some u := by
  have : (⟨w.heap.size, 0, none⟩ : Addr).add k = ⟨w.heap.size, k, none⟩ := by
    unfold Addr.add
    split
    · rename_i h0; simp [h0]
    · simp
  rw [this, new_cell, ← Array.getElem?_toList]
  exact h
theorem grown_alloc {w w' : World} {o : Obj} {r : Option Nat} (h : (w.alloc o).grownBy w' r) : w.grownBy w' r := by
  have hs := h.size
  have e : (w.alloc o).heap.size = w.heap.size + 1 := by simp
  exact ⟨h.os, h.tape, h.output, by omega, fun k hk hne => by rw [h.block k (by omega) hne, Below.heap_alloc _ _ _ (by omega)]⟩

theorem keptR : EInfo Try.prog 63 62 (.agg #[.int .i64 0, .int .i64 0, .string ⟨#[]⟩]) 3 32 := EInfo.mk_ Try.underlying63 (by kernel_rfl) rfl (by omega)

set_option maxRecDepth 100000 in
set_option maxHeartbeats 2000000 in
theorem torn1_ok {b0 p g : Nat} {w : World} {v : Nat → Nat → Value} {σ : Sto} (S : St b0 w p g v σ) (i key bs bd : Nat) (hi : i < σ.N) (hkey : key < 3) (cs : w.cell? ⟨bs, 0, none⟩ = some (.pointer (some ⟨p, 0, none⟩))) (cd : w.cell? ⟨bd, 1, none⟩ = some (.int .i64 (key : Int))) :
    Calls Try.prog 21 #[.int .i64 (i : Int), .pointer (some ⟨bs, 0, none⟩), .pointer (some ⟨bd, 0, none⟩)] w fun e w' => e = .returned (.bool (decide (8 ≤ (σ.kept i key).length))) ∧ Ext w w' := by
  have n4 := S.cnodes
  have kc := S.ckept i key hi hkey
  obtain ⟨A, c, hv, R, h1, h2, h3, -⟩ := S.row hi hkey
  rw [hv] at kc
  have hiI : (i : Int) < (σ.N : Int) := by omega
  have hkI : (key : Int) < 3 := by omega
  clear S hv R h3
  generalize (σ.kept i key).length = L at *
  by_cases h8 : 8 ≤ L
  · have h8I : (8 : Int) ≤ (L : Int) := by omega
    rw [decide_eq_true h8]
    clear h8
    go_enter Try.func21, Try.ntmps21
    go_wp2
    go_quiet (fail)
    go_wp2
    go_ret
    exact ⟨rfl, (Ext.refl _).drewN _⟩
  · have h8I : decide ((8 : Int) ≤ (L : Int)) = false := decide_eq_false (by omega)
    have h8J : ¬ (8 : Int) ≤ (L : Int) := by omega
    rw [decide_eq_false h8]
    clear h8
    go_enter Try.func21, Try.ntmps21
    go_wp2
    go_quiet (fail)
    go_wp2
    go_ret
    exact ⟨rfl, (Ext.refl _).drewN _⟩


set_option maxRecDepth 100000 in
set_option maxHeartbeats 1000000 in
theorem full_index (A : Option Addr) (n c : Nat) (l : List Nat) (q1 q2 : Addr) (w : World) (R : Row w A n 1 (nats .i64 l)) (p : Nat → Bool)
    (hp : ∀ k, k < n → ∀ W, Ext w W → Calls Try.prog 21 (#[.int .i64 ((l.getD k 0 : Nat) : Int)] ++ #[.pointer (some q1), .pointer (some q2)]) W fun e w' => e = .returned (.bool (p (l.getD k 0))) ∧ Ext W w') (hm : n ≤ 4611686018427387904) :
    Calls Try.prog 29 #[.slice A n c, .func (.func 21) #[] #[.pointer (some q1), .pointer (some q2)]] w fun e w' => (∃ r : Int, e = .returned (.int .i64 r) ∧ decide (0 ≤ r) = l.any p) ∧ Ext w w' := by
  have HP := hide hp
  have HL := hide R.numN
  have HR := hide R
  clear hp R
  go_enter Try.func29, Try.ntmps29
  go_wp2
  go_loopw [8] (fun i wr => ∃ k : Nat, k ≤ n ∧ i = .int .i64 k ∧ Hid (∀ j, j < k → p (l.getD j 0) = false) ∧ Ext w wr) (fun i _ => n - (intOf i).toNat)
  case atStart => exact ⟨0, by omega, rfl, hide (fun j h => absurd h (by omega)), Ext.refl _⟩
  case round =>
    obtain ⟨k, hk, rfl, hz, hext⟩ := hrel
    by_cases hlt : k < n
    · obtain ⟨b, o, rfl, hb, c1⟩ := ((unhide HR).keep hext).nat hlt
      have hpk := unhide HP k hlt
      have hmem := getD_mem l 0 (k := k) (by rw [unhide HL]; exact hlt)
      have hzk := hide (fun (h : p (l.getD k 0) = false) j (hj : j < k + 1) => (show p (l.getD j 0) = false from by
        by_cases h' : j < k
        · exact unhide hz j h'
        · obtain rfl : j = k := by omega
          exact h))
      have hfin := hide (fun (h : p (l.getD k 0) = true) => (List.any_eq_true.2 ⟨_, hmem, h⟩ : l.any p = true))
      clear hmem
      generalize hq : p (l.getD k 0) = q at *
      clear hq
      generalize l.getD k 0 = x at *
      have HQ := hide hpk
      clear hpk
      cases q with
      | false =>
        have hz2 := hide (unhide hzk rfl)
        clear hzk hfin
        go_wp2_with (go_at_call 21; refine (unhide HQ _ hext).mono ?_; rintro e w' ⟨rfl, E1⟩)
        go_roundw
        case rel => exact ⟨k + 1, by omega, by go_num, hz2, hext.trans E1⟩
        case measure => simp [intOf]; omega
      | true =>
        have hf2 := hide (unhide hfin rfl)
        clear hzk hfin
        go_wp2_with (go_at_call 21; refine (unhide HQ _ hext).mono ?_; rintro e w' ⟨rfl, E1⟩)
        go_ret
        exact ⟨⟨_, rfl, by rw [unhide hf2]; simp⟩, hext.trans E1⟩
    · have hfin := hide (show l.any p = false by
        rw [List.any_eq_false]
        intro x hx
        obtain ⟨j, hj, rfl⟩ := List.getElem_of_mem hx
        have := unhide hz j (by have := unhide HL; omega)
        rw [List.getD_eq_getElem?_getD, List.getElem?_eq_getElem hj] at this
        simpa using this)
      go_wp2
      go_ret
      exact ⟨⟨_, rfl, by rw [unhide hfin]; simp⟩, hext⟩

theorem full_contains (A : Option Addr) (n c : Nat) (l : List Nat) (q1 q2 : Addr) (w : World) (R : Row w A n 1 (nats .i64 l)) (p : Nat → Bool)
    (hp : ∀ k, k < n → ∀ W, Ext w W → Calls Try.prog 21 (#[.int .i64 ((l.getD k 0 : Nat) : Int)] ++ #[.pointer (some q1), .pointer (some q2)]) W fun e w' => e = .returned (.bool (p (l.getD k 0))) ∧ Ext W w') (hm : n ≤ 4611686018427387904) :
    Calls Try.prog 20 #[.slice A n c, .func (.func 21) #[] #[.pointer (some q1), .pointer (some q2)]] w fun e w' => e = .returned (.bool (l.any p)) ∧ Ext w w' := by
  have H := hide (full_index A n c l q1 q2 w R p hp hm)
  clear R hp
  generalize l.any p = v at *
  go_enter Try.func20, Try.ntmps20
  go_wp2_with fail
  refine (unhide H).mono ?_
  rintro e w' ⟨⟨n, rfl, hn⟩, E1⟩
  go_wp2
  go_ret
  exact ⟨rfl, E1⟩

end Go.Proofs.Ythmmofalepckgaa
