/-
  The contract of (*Store).at.
-/
import Derived.Test.YthmmofalepckgaaSto14
set_option linter.unusedVariables false
set_option linter.unusedSimpArgs false
namespace Go.Proofs.Ythmmofalepckgaa
open Go.RowKit Go.BigFrame

set_option maxRecDepth 100000 in
set_option maxHeartbeats 4000000 in
theorem at_ok {b0 p g : Nat} {w : World} {v : Nat → Nat → Value} {σ : Sto} (S : St b0 w p g v σ) (Fi : Fine σ) (kind key n : Int) (s : ByteArray) (hk : kind = 4 ∨ kind = 5 ∨ kind = 6 ∨ (kind = 7 ∧ Sto.isKey key)) :
    Calls Try.prog 15 #[.pointer (some ⟨p, 0, none⟩), deedV kind key n s] w fun e w' => e = .returned (.int .i64 (σ.atS kind key n).1.err) ∧ Became b0 w p g v σ w' (σ.atS kind key n).2 := by
  have HS := hide S
  have HF := hide Fi
  obtain ⟨W0, hW0⟩ : ∃ W0, W0 = w.alloc (.cells #[.int .i64 kind, .int .i64 key, .int .i64 n, .string s] 32) := ⟨_, rfl⟩
  have HW0 := hide hW0
  have E0 : Ext w W0 := by rw [hW0]; exact (Ext.refl w).alloc _
  have d0 : W0.cell? ⟨w.heap.size, 0, none⟩ = some (.int .i64 kind) := by rw [hW0, new_cell]; rfl
  have d1 : W0.cell? ⟨w.heap.size, 1, none⟩ = some (.int .i64 key) := by rw [hW0, new_cell]; rfl
  have d2 : W0.cell? ⟨w.heap.size, 2, none⟩ = some (.int .i64 n) := by rw [hW0, new_cell]; rfl
  have d3 : W0.cell? ⟨w.heap.size, 3, none⟩ = some (.string s) := by rw [hW0, new_cell]; rfl
  have S0 := S.keep E0
  have n4 : W0.cell? ⟨p, 4, none⟩ = some (.slice (some ⟨g, 0, none⟩) σ.N σ.N) := S0.cnodes
  have HE0 := hide E0
  have HS0 := hide S0
  have CI := hide (isNode_ok S0 n)
  clear S Fi hW0 E0 S0
  unfold deedV
  by_cases hn : σ.isNode n
  · rw [decide_eq_true hn] at CI
    obtain ⟨m, rfl⟩ : ∃ m : Nat, n = (m : Int) := ⟨n.toNat, by unfold Sto.isNode at hn; omega⟩
    have hmN : m < σ.N := by unfold Sto.isNode at hn; omega
    have hmI : (m : Int) < (σ.N : Int) := by omega
    have HN := hide hn
    have cd := (unhide HS0).cdown m hmN
    have c0 := (unhide HS0).ckept m 0 hmN (by omega)
    have c1 := (unhide HS0).ckept m 1 hmN (by omega)
    have c2 := (unhide HS0).ckept m 2 hmN (by omega)
    have fg := (unhide HS0).fg
    clear hn
    rcases hk with rfl | rfl | rfl | ⟨rfl, hkey⟩
    · have HP := hide (show σ.atS 4 key (m : Int) = (Ans.no 0, { σ with down := fun i => if i = m then true else σ.down i }) from by
        unfold Sto.atS; rw [if_neg (by simpa using unhide HN), if_pos rfl, Int.toNat_natCast])
      clear c0 c1 c2 d3
      go_enter Try.func15, Try.ntmps15
      go_wp2_with fail
      rw [← unhide HW0]
      refine (unhide CI).mono ?_
      rintro e w1 ⟨rfl, rfl⟩
      go_wp2
      go_quiet (fail)
      have HED := hide ((unhide HE0).drewN nq)
      have HSD := hide ((unhide HS).keep (unhide HED))
      have cd : (w1.drewN nq).cell? ⟨g, m * 4, none⟩ = some (.bool (σ.down m)) := cd
      have fg : ∀ j, (w1.drewN nq).frozen? ⟨g, j, none⟩ = false := fg
      have d0 : (w1.drewN nq).cell? ⟨w.heap.size, 0, none⟩ = some (.int .i64 4) := d0
      generalize (w1.drewN nq) = wd at *
      go_wp2
      go_ret
      obtain ⟨T1, T2⟩ := (unhide HSD).flag hmN true
      rw [unhide HP]
      exact ⟨rfl, Became.pre (unhide HED) ⟨v, T1, T2, fun _ h => .inl h⟩⟩
    · have HP := hide (show σ.atS 5 key (m : Int) = (Ans.no 0, { σ with down := fun i => if i = m then false else σ.down i }) from by
        unfold Sto.atS; rw [if_neg (by simpa using unhide HN), if_neg (by decide), if_pos rfl, Int.toNat_natCast])
      clear c0 c1 c2 d3
      go_enter Try.func15, Try.ntmps15
      go_wp2_with fail
      rw [← unhide HW0]
      refine (unhide CI).mono ?_
      rintro e w1 ⟨rfl, rfl⟩
      go_wp2
      go_quiet (fail)
      have HED := hide ((unhide HE0).drewN nq)
      have HSD := hide ((unhide HS).keep (unhide HED))
      have cd : (w1.drewN nq).cell? ⟨g, m * 4, none⟩ = some (.bool (σ.down m)) := cd
      have fg : ∀ j, (w1.drewN nq).frozen? ⟨g, j, none⟩ = false := fg
      have d0 : (w1.drewN nq).cell? ⟨w.heap.size, 0, none⟩ = some (.int .i64 5) := d0
      generalize (w1.drewN nq) = wd at *
      go_wp2
      go_ret
      obtain ⟨T1, T2⟩ := (unhide HSD).flag hmN false
      rw [unhide HP]
      exact ⟨rfl, Became.pre (unhide HED) ⟨v, T1, T2, fun _ h => .inl h⟩⟩
    · have HP := hide (show σ.atS 6 key (m : Int) = (Ans.no 0, { σ with kept := fun i k => if i = m then [] else σ.kept i k }) from by
        unfold Sto.atS; rw [if_neg (by simpa using unhide HN), if_neg (by decide), if_neg (by decide), if_pos rfl, Int.toNat_natCast])
      clear cd d3
      go_enter Try.func15, Try.ntmps15
      go_wp2_with fail
      rw [← unhide HW0]
      refine (unhide CI).mono ?_
      rintro e w1 ⟨rfl, rfl⟩
      go_wp2
      go_quiet (fail)
      have HED := hide ((unhide HE0).drewN nq)
      have HSD := hide ((unhide HS).keep (unhide HED))
      have c0 : (w1.drewN nq).cell? ⟨g, m * 4 + 1 + 0, none⟩ = some (v m 0) := c0
      have c1 : (w1.drewN nq).cell? ⟨g, m * 4 + 1 + 1, none⟩ = some (v m 1) := c1
      have c2 : (w1.drewN nq).cell? ⟨g, m * 4 + 1 + 2, none⟩ = some (v m 2) := c2
      have fg : ∀ j, (w1.drewN nq).frozen? ⟨g, j, none⟩ = false := fg
      have d0 : (w1.drewN nq).cell? ⟨w.heap.size, 0, none⟩ = some (.int .i64 6) := d0
      generalize (w1.drewN nq) = wd at *
      go_wp2
      go_ret
      obtain ⟨T1, T2, T3⟩ := (unhide HSD).turn hmN (k := 0) (by omega) (w' := wd) (u := .slice none 0 0) (l := []) (World.ownsRow_nil _ _ _ _) (World.grownBy.refl wd _) (.inl rfl)
      obtain ⟨U1, U2, U3⟩ := T1.turn hmN (k := 1) (by omega) (u := .slice none 0 0) (l := []) (World.ownsRow_nil _ _ _ _) (World.grownBy.refl _ _) (.inl rfl)
      obtain ⟨V1, V2, V3⟩ := U1.turn hmN (k := 2) (by omega) (u := .slice none 0 0) (l := []) (World.ownsRow_nil _ _ _ _) (World.grownBy.refl _ _) (.inl rfl)
      have V4 := V1.congr (f := fun i k => if i = m then [] else σ.kept i k) (fun i k hi hk3 => by
        show setK (setK (setK σ.kept m 0 []) m 1 []) m 2 [] i k = _
        unfold setK
        by_cases e : i = m
        · subst e
          rw [if_pos rfl]
          rcases (show k = 0 ∨ k = 1 ∨ k = 2 by omega) with rfl | rfl | rfl <;> simp
        · rw [if_neg e, if_neg (fun h => e h.1), if_neg (fun h => e h.1), if_neg (fun h => e h.1)])
      rw [unhide HP]
      exact ⟨rfl, Became.pre (unhide HED) (Became.trans_ T2 T3 (Became.trans_ U2 U3 ⟨_, V4, V2, V3⟩ rfl) rfl)⟩
    · obtain ⟨k, rfl⟩ : ∃ k : Nat, key = (k : Int) := ⟨key.toNat, by unfold Sto.isKey at hkey; omega⟩
      have hk3 : k < 3 := by unfold Sto.isKey at hkey; omega
      have HP := hide (show (σ.atS 7 (k : Int) (m : Int)).1.err = rotE σ m k ∧ (σ.atS 7 (k : Int) (m : Int)).2 = rotT σ m k from by
        unfold Sto.atS rotE rotT
        rw [if_neg (by simpa using unhide HN), if_neg (by decide), if_neg (by decide), if_neg (by decide), Int.toNat_natCast, Int.toNat_natCast]
        by_cases e : σ.kept m k = []
        · rw [if_pos e, if_pos e, if_pos e]; exact ⟨rfl, rfl⟩
        · rw [if_neg e, if_neg e, if_neg e]; exact ⟨rfl, rfl⟩)
      have CR := hide (show ∀ W, Ext w W → Calls Try.prog 27 #[.pointer (some ⟨p, 0, none⟩), .agg #[.int .i64 7, .int .i64 (k : Int), .int .i64 (m : Int), .string s]] W fun e w' => e = .returned (.int .i64 (rotE σ m k)) ∧ Became b0 W p g v σ w' (rotT σ m k) from fun W E => rot_ok ((unhide HS).keep E) (unhide HF) 7 k m hmN hk3 s)
      clear cd c0 c1 c2 hkey fg
      go_enter Try.func15, Try.ntmps15
      go_wp2_with fail
      rw [← unhide HW0]
      refine (unhide CI).mono ?_
      rintro e w1 ⟨rfl, rfl⟩
      go_wp2
      go_quiet (fail)
      have HED := hide ((unhide HE0).drewN nq)
      have d0 : (w1.drewN nq).cell? ⟨w.heap.size, 0, none⟩ = some (.int .i64 7) := d0
      have d1 : (w1.drewN nq).cell? ⟨w.heap.size, 1, none⟩ = some (.int .i64 (k : Int)) := d1
      have d2 : (w1.drewN nq).cell? ⟨w.heap.size, 2, none⟩ = some (.int .i64 (m : Int)) := d2
      have d3 : (w1.drewN nq).cell? ⟨w.heap.size, 3, none⟩ = some (.string s) := d3
      generalize (w1.drewN nq) = wd at *
      go_wp2_with fail
      refine (unhide CR _ (unhide HED)).mono ?_
      rintro e w3 ⟨rfl, B3⟩
      have HB3 := hide (Became.pre (unhide HED) B3)
      clear B3
      go_wp2
      go_ret
      rw [(unhide HP).1, (unhide HP).2]
      exact ⟨rfl, unhide HB3⟩
  · have HP := hide (show σ.atS kind key n = (Ans.no 1, σ) from by unfold Sto.atS; rw [if_pos hn])
    rw [decide_eq_false hn] at CI
    clear hn n4 d0 d1 d3
    go_enter Try.func15, Try.ntmps15
    go_wp2_with fail
    rw [← unhide HW0]
    refine (unhide CI).mono ?_
    rintro e w1 ⟨rfl, rfl⟩
    go_wp2
    go_ret
    rw [unhide HP]
    exact ⟨rfl, Became.of_ext (unhide HS) (unhide HE0)⟩
end Go.Proofs.Ythmmofalepckgaa
