/-
  The contract of (*Store).Look.
-/
import Derived.Test.YtfhalkijbenhdaaSto21
set_option linter.unusedVariables false
set_option linter.unusedSimpArgs false
namespace Go.Proofs.Ytfhalkijbenhdaa
open Go.RowKit Go.BigFrame


set_option maxRecDepth 100000 in
set_option maxHeartbeats 1000000 in
theorem clone_kept (A : Option Addr) (n c : Nat) (xs : List Value) (w : World) (R : Row w A n 3 xs) (h1 : ∀ u ∈ xs, u.oneCell' = true) (hb : n * 32 ≤ 140737488355328) (hnil : A = none → n = 0 ∧ c = 0) :
    Calls Try.prog 20 #[.slice A n c] w fun e w' => (∃ v, e = .returned v ∧ w'.ownsRow w.heap.size 58 3 v n xs) ∧ Ext w w' := by
  have hi0 : (Try.prog.info? 58).map (fun i => (i.zero, i.size, i.bytes)) = some (some (.agg #[.int .i64 0, .int .i64 0, .string ⟨#[]⟩]), 3, 32) := by kernel_rfl
  obtain ⟨i0, hi, hz0, hz1, hz2⟩ := info_parts hi0
  cases A with
  | none =>
    obtain ⟨rfl, rfl⟩ := hnil rfl
    obtain rfl := R.empty
    have heq := fun w : World => Lib.run_eql_slice_nil w 52 58 none 0 0 0 0 Try.underlying52
    go_enter Try.func20, Try.ntmps20
    go_wp2
    go_ret
    exact ⟨⟨_, rfl, World.ownsRow_nil _ _ _ _⟩, Ext.refl _⟩
  | some ad =>
    have heq := fun w : World => Lib.run_eql_slice_nil w 52 58 (some ad) n c 0 0 Try.underlying52
    have hr := R.2
    have hl := R.1
    have hown := World.ownsRow_lit (base := w.heap.size) (e := 58) (size := 3) w #[] 0 (Nat.le_refl _) (by unfold maxLen; omega) rfl
    have HR := hide hr
    have HL := hide hl
    clear R hnil hr hl
    go_enter Try.func20, Try.ntmps20
    go_wp2_with (at_builtin; refine wpList_append_own _ rfl _ _ 52 rfl w.heap.size 58 i0 (.agg #[.int .i64 0, .int .i64 0, .string ⟨#[]⟩]) 3 32 Try.underlying52 hi hz0 hz1 hz2 rfl (by decide) _ _ _ rfl hown ad n c xs rfl (unhide HL) ?c1 h1 (by unfold maxLen; omega) (by omega) (by simp) ?_)
    case c1 =>
      intro j u hj
      have hjn : j < n * 3 := by
        have := (List.getElem?_eq_some_iff.1 hj).1
        have := unhide HL
        omega
      obtain ⟨b, o, e, hb, hc⟩ := unhide HR (by omega)
      injection e with e
      subst e
      have hj' := (hc j hjn).trans hj
      have : (⟨b, o, none⟩ : Addr).add j = ⟨b, o + j, none⟩ := by
        unfold Addr.add
        split
        · rename_i h0; simp [h0]
        · rfl
      rw [this]
      exact (World.cell?_alloc_lt _ _ _ hb).trans hj'
    intro v' w' hown' hgrow _
    have hown2 : w'.ownsRow w.heap.size 58 3 v' n xs := by simpa using hown'
    have E1 : Ext w w' := ((Ext.refl w).alloc _).grown hgrow (fun q hq => by simp [Value.ownBlock] at hq; omega)
    clear hgrow
    go_wp2
    go_ret
    exact ⟨⟨_, rfl, hown2⟩, E1⟩


set_option maxRecDepth 100000 in
set_option maxHeartbeats 4000000 in
theorem look_bad {b0 p g : Nat} {w : World} {v : Nat → Nat → Value} {σ : Sto} (S : St b0 w p g v σ) (i key : Int) (h : ¬ (σ.isNode i ∧ Sto.isKey key)) :
    Calls Try.prog 19 #[.pointer (some ⟨p, 0, none⟩), .int .i64 i, .int .i64 key] w fun e w' => e = .returned (.tuple #[.slice none 0 0, .bool false, .int .i64 1]) ∧ Ext w w' := by
  have CI := hide (isNode_ok S i)
  have CK := hide (fun W => isKey_ok key W)
  clear S
  by_cases hi : σ.isNode i
  · rw [decide_eq_true hi] at CI
    rw [decide_eq_false (fun hk => h ⟨hi, hk⟩)] at CK
    clear hi h
    go_enter Try.func19, Try.ntmps19
    go_wp2_with fail
    refine (unhide CI).mono ?_
    rintro e w1 ⟨rfl, rfl⟩
    go_wp2_with fail
    refine (unhide CK _).mono ?_
    rintro e w2 ⟨rfl, rfl⟩
    go_wp2
    go_ret3
    exact ⟨rfl, Ext.refl _⟩
  · rw [decide_eq_false hi] at CI
    clear hi h
    go_enter Try.func19, Try.ntmps19
    go_wp2_with fail
    refine (unhide CI).mono ?_
    rintro e w1 ⟨rfl, rfl⟩
    go_wp2
    go_ret3
    exact ⟨rfl, Ext.refl _⟩

set_option maxRecDepth 100000 in
set_option maxHeartbeats 4000000 in
theorem look_ok {b0 p g : Nat} {w : World} {v : Nat → Nat → Value} {σ : Sto} (S : St b0 w p g v σ) (Fi : Fine σ) (i key : Nat) (hi : i < σ.N) (hk : key < 3) :
    Calls Try.prog 19 #[.pointer (some ⟨p, 0, none⟩), .int .i64 (i : Int), .int .i64 (key : Int)] w fun e w' =>
      (∃ u, e = .returned (.tuple #[u, .bool (!σ.down i), .int .i64 0]) ∧ w'.ownsRow w.heap.size 58 3 u (σ.kept i key).length (kps (σ.kept i key))) ∧ Ext w w' := by
  have CI := hide (isNode_ok S (i : Int))
  have CK := hide (fun W => isKey_ok (key : Int) W)
  rw [decide_eq_true (show σ.isNode (i : Int) from ⟨by omega, by omega⟩)] at CI
  rw [decide_eq_true (show Sto.isKey (key : Int) from ⟨by omega, by omega⟩)] at CK
  have n4 : w.cell? ⟨p, 4, none⟩ = some (.slice (some ⟨g, 0, none⟩) σ.N σ.N) := S.cnodes
  have kc := S.ckept i key hi hk
  have dc := S.cdown i hi
  obtain ⟨A, c, hv, R, hc, -, hA, -⟩ := S.row hi hk
  rw [hv] at kc
  have hlen := Fi.len i key hi hk
  have hA2 : A = none → (σ.kept i key).length = 0 ∧ c = 0 := hA
  have CC := hide (fun (W : World) (E : Ext w W) => clone_kept A (σ.kept i key).length c (kps (σ.kept i key)) W (R.keep E) (kps_one _) (by omega) hA2)
  have HK := hide (fun (W : World) (E : Ext w W) => show W.cell? ⟨p, 4, none⟩ = some (.slice (some ⟨g, 0, none⟩) σ.N σ.N) ∧ W.cell? ⟨g, i * 4 + 1 + key, none⟩ = some (.slice A (σ.kept i key).length c) ∧ W.cell? ⟨g, i * 4, none⟩ = some (.bool (σ.down i)) from ⟨E.keep n4, E.keep kc, E.keep dc⟩)
  obtain ⟨L, hL⟩ : ∃ L, L = (σ.kept i key).length := ⟨_, rfl⟩
  rw [← hL] at CC HK ⊢
  have hiI : (i : Int) < (σ.N : Int) := by omega
  have hkI : (key : Int) < 3 := by omega
  clear S Fi n4 kc dc R hv hc hA hA2 hlen hL
  go_enter Try.func19, Try.ntmps19
  go_wp2_with fail
  refine (unhide CI).mono ?_
  rintro e w1 ⟨rfl, rfl⟩
  go_wp2_with fail
  refine (unhide CK _).mono ?_
  rintro e w2 ⟨rfl, rfl⟩
  go_upto_region 3 with fail
  go_region_held3 (fun W => W.cell? ⟨p, 4, none⟩ = some (.slice (some ⟨g, 0, none⟩) σ.N σ.N) ∧ W.cell? ⟨g, i * 4 + 1 + key, none⟩ = some (.slice A L c) ∧ W.cell? ⟨g, i * 4, none⟩ = some (.bool (σ.down i))) (first | exact unhide HK _ (Ext.refl _).drew | exact unhide HK _ E6) (first
    | (go_at_call 20; refine (unhide CC _ (Ext.refl _).drew).mono ?_; rintro e w6 ⟨⟨u, rfl, hown⟩, E6'⟩; have E6 := Ext.trans (Ext.refl _).drew E6'))
  go_wp2
  go_ret3
  exact ⟨⟨_, rfl, hown⟩, E6⟩
end Go.Proofs.Ytfhalkijbenhdaa
