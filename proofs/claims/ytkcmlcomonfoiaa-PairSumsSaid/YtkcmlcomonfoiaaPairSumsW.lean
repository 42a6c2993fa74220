/-
  The walk of the law PairSums.
-/
import Derived.Test.YtkcmlcomonfoiaaPair4
import Derived.Deep.AppendLies
set_option linter.unusedVariables false
set_option linter.unusedSimpArgs false
namespace Go.Proofs.Ytkcmlcomonfoiaa
open Go.RowKit Go.BigFrame

theorem str_inj' {a b : ByteArray} (h : a.toList = b.toList) : a = b := by
  rw [ByteArray.toList_eq, ByteArray.toList_eq] at h
  cases a; cases b
  simpa using h
/-- The sums, one by one. -/
def bothL (a b : List ByteArray) (n : Nat) : List ByteArray := (List.range n).map fun i => sumS (a.getD i ByteArray.empty) (b.getD i ByteArray.empty)
theorem bothL_length (a b : List ByteArray) (n : Nat) : (bothL a b n).length = n := by simp [bothL]
theorem bothL_get (a b : List ByteArray) {n i : Nat} (h : i < n) : (bothL a b n).getD i ByteArray.empty = sumS (a.getD i ByteArray.empty) (b.getD i ByteArray.empty) := by
  unfold bothL
  rw [List.getD_eq_getElem?_getD, List.getElem?_map, List.getElem?_range h]; rfl
theorem bothL_succ (a b : List ByteArray) (n : Nat) : strs (bothL a b (n + 1)) = strs (bothL a b n) ++ [.string (sumS (a.getD n ByteArray.empty) (b.getD n ByteArray.empty))] := by
  simp [bothL, strs, List.range_succ]
theorem xor4 (a b c d : Nat) : (a ^^^ b) ^^^ (c ^^^ d) = (a ^^^ c) ^^^ (b ^^^ d) := by
  rw [Nat.xor_assoc, ← Nat.xor_assoc b c d, Nat.xor_comm b c, Nat.xor_assoc c b d, ← Nat.xor_assoc]
theorem pc_both (a b : List ByteArray) (n k m : Nat) (hk : k < m) (ha : ∀ i, i < n → (a.getD i ByteArray.empty).size = m) : ∀ i, i ≤ n → pc (bothL a b n) [] k i = pc a [] k i ^^^ pc b [] k i
  | 0, _ => by simp [pc]
  | i + 1, h => by
    have ih := pc_both a b n k m hk ha i (by omega)
    simp only [pc, List.not_mem_nil, if_false]
    rw [ih, bothL_get a b (by omega), sumS_byt _ _ (by rw [ha i (by omega)]; exact hk), xor4]
theorem qc_both (a b : List ByteArray) (n k m : Nat) (hk : k < m) (ha : ∀ i, i < n → (a.getD i ByteArray.empty).size = m) : ∀ i, i ≤ n → qc (bothL a b n) [] k i = qc a [] k i ^^^ qc b [] k i
  | 0, _ => by simp [qc]
  | i + 1, h => by
    have ih := qc_both a b n k m hk ha i (by omega)
    simp only [qc, List.not_mem_nil, if_false]
    rw [ih, bothL_get a b (by omega), sumS_byt _ _ (by rw [ha i (by omega)]; exact hk), Wm.xor_fmul (Wm.fpow_lt (by omega) i) (byt_lt _ _) (byt_lt _ _), xor4]
theorem sum_strN (f g : Nat → Nat) (m : Nat) (hf : ∀ k, f k < 256) (hg : ∀ k, g k < 256) : sumS (strN ((List.range m).map f)) (strN ((List.range m).map g)) = strN ((List.range m).map fun k => f k ^^^ g k) := by
  have hs : (strN ((List.range m).map f)).size = m := by rw [strN_size]; simp
  unfold sumS
  rw [hs]
  congr 1
  apply List.map_congr_left
  intro k hk
  have hk' := List.mem_range.1 hk
  have hb : ∀ (f : Nat → Nat) (_ : ∀ k, f k < 256), byt (strN ((List.range m).map f)) k = f k := fun f hf => by
    rw [strN_byt _ (fun x hx => by obtain ⟨j, -, rfl⟩ := List.mem_map.1 hx; exact hf j) (by simpa using hk')]
    rw [List.getD_eq_getElem?_getD, List.getElem?_map, List.getElem?_range hk']; rfl
  rw [hb f hf, hb g hg]
/-- What Put tells of the sums. -/
theorem put_both (a b : List ByteArray) (m : Nat) (hm : (a.getD 0 ByteArray.empty).size = m) (ha : okB a) (hb : okB b) (hn : a.length = b.length) (hmb : (b.getD 0 ByteArray.empty).size = m) :
    okB (bothL a b a.length) ∧ PutOk (bothL a b a.length) ((bothL a b a.length).getD 0 ByteArray.empty).size = .tuple #[
      .string (sumS (strN ((List.range m).map fun k => pc a [] k a.length)) (strN ((List.range m).map fun k => pc b [] k b.length))),
      .string (sumS (strN ((List.range m).map fun k => qc a [] k a.length)) (strN ((List.range m).map fun k => qc b [] k b.length))), .int .i64 0] := by
  obtain ⟨a1, a2, a3⟩ := ha
  have hall : ∀ i, i < a.length → (a.getD i ByteArray.empty).size = m := fun i hi => by rw [← hm]; exact (a3 _ (getD_mem a ByteArray.empty hi)).2
  have h0 : ((bothL a b a.length).getD 0 ByteArray.empty).size = m := by rw [bothL_get a b (by omega), sumS_size]; exact hm
  refine ⟨⟨by rw [bothL_length]; exact a1, by rw [bothL_length]; exact a2, fun s hs => ?_⟩, ?_⟩
  · obtain ⟨i, hi, rfl⟩ := List.mem_map.1 hs
    rw [h0, sumS_size, hall i (List.mem_range.1 hi)]
    exact ⟨by rw [← hm]; exact (a3 _ (getD_mem a ByteArray.empty (by omega))).1, rfl⟩
  · unfold PutOk
    rw [h0, bothL_length, sum_strN _ _ m (fun k => pc_lt a [] k _) (fun k => pc_lt b [] k _), sum_strN _ _ m (fun k => qc_lt a [] k _) (fun k => qc_lt b [] k _)]
    have e1 : ((List.range m).map fun k => pc (bothL a b a.length) [] k a.length) = (List.range m).map fun k => pc a [] k a.length ^^^ pc b [] k b.length :=
      List.map_congr_left fun k hk => by rw [pc_both a b a.length k m (List.mem_range.1 hk) hall a.length (Nat.le_refl _), hn]
    have e2 : ((List.range m).map fun k => qc (bothL a b a.length) [] k a.length) = (List.range m).map fun k => qc a [] k a.length ^^^ qc b [] k b.length :=
      List.map_congr_left fun k hk => by rw [qc_both a b a.length k m (List.mem_range.1 hk) hall a.length (Nat.le_refl _), hn]
    rw [e1, e2]

theorem strI : EInfo Try.prog 36 9 (.string ByteArray.empty) 1 16 := EInfo.mk_ Try.underlying36 (by kernel_rfl) rfl (by omega)

set_option maxRecDepth 100000 in
set_option maxHeartbeats 1000000 in
theorem psums_bad (A : Option Addr) (n c : Nat) (a : List ByteArray) (B : Option Addr) (m d : Nat) (b : List ByteArray) (w : World)
    (CA : Hid (∀ (w' : World) (E : Ext w w'), Calls Try.prog 19 #[.slice A n c] w' fun e w'' => ((okB a ∧ e = .returned (PutOk a (a.getD 0 ByteArray.empty).size)) ∨ (¬ okB a ∧ ∃ r : Int, r ≠ 0 ∧ e = .returned (.tuple #[.string ByteArray.empty, .string ByteArray.empty, .int .i64 r]))) ∧ Ext w' w''))
    (CB : Hid (∀ (w' : World) (E : Ext w w'), Calls Try.prog 19 #[.slice B m d] w' fun e w'' => ((okB b ∧ e = .returned (PutOk b (b.getD 0 ByteArray.empty).size)) ∨ (¬ okB b ∧ ∃ r : Int, r ≠ 0 ∧ e = .returned (.tuple #[.string ByteArray.empty, .string ByteArray.empty, .int .i64 r]))) ∧ Ext w' w''))
    (T0 : Hid (∀ w : World, Calls Try.prog 18 #[] w fun e w' => e = .returned (.bool true) ∧ Ext w w')) (hno : ¬ (okB a ∧ okB b)) :
    Calls Try.prog 6 #[.slice A n c, .slice B m d] w fun e w' => e = .returned (.bool true) ∧ Ext w w' := by
  have gen : ∀ L : List ByteArray, Hid (∀ e (_ : (okB L ∧ e = Ending.returned (PutOk L (L.getD 0 ByteArray.empty).size)) ∨ (¬ okB L ∧ ∃ r : Int, r ≠ 0 ∧ e = .returned (.tuple #[.string ByteArray.empty, .string ByteArray.empty, .int .i64 r]))), ∃ (p q : ByteArray) (r : Int), (okB L ∨ r ≠ 0) ∧ e = .returned (.tuple #[.string p, .string q, .int .i64 r])) := fun L => hide fun e h => by
    rcases h with ⟨h1, h2⟩ | ⟨-, r, h1, h2⟩
    · exact ⟨_, _, _, .inl h1, h2⟩
    · exact ⟨_, _, r, .inr h1, h2⟩
  have HA := gen a
  have HB := gen b
  have HNO := hide hno
  clear gen hno
  go_enter Try.func6, Try.ntmps6
  go_wp2_with fail
  refine (unhide T0 _).mono ?_
  rintro e w1 ⟨rfl, E1⟩
  go_wp2_with fail
  refine (unhide CA _ E1).mono ?_
  rintro e w2 ⟨h1, E2⟩
  obtain ⟨p1, q1, r1, hr1, rfl⟩ := unhide HA _ h1
  clear h1
  go_wp2_with fail
  refine (unhide CB _ (E1.trans E2)).mono ?_
  rintro e w3 ⟨h2, E3⟩
  obtain ⟨p2, q2, r2, hr2, rfl⟩ := unhide HB _ h2
  clear h2
  have F3 := (E1.trans E2).trans E3
  by_cases hz : r1 = 0
  · subst hz
    have hr : r2 ≠ 0 := by
      rcases hr1 with h1 | h1
      · rcases hr2 with h2 | h2
        · exact absurd ⟨h1, h2⟩ (unhide HNO)
        · exact h2
      · exact absurd rfl h1
    have hb : (r2 != 0) = true := by rw [bne_iff_ne]; exact hr
    clear hr1 hr2
    go_upto_region 5 with fail
    go_quiet (fail)
    go_wp2
    go_ret
    exact ⟨rfl, F3.drewN _⟩
  · have hb : (r1 != 0) = true := by rw [bne_iff_ne]; exact hz
    clear hr1 hr2
    go_upto_region 5 with fail
    go_quiet (fail)
    go_wp2
    go_ret
    exact ⟨rfl, F3.drewN _⟩

set_option maxRecDepth 100000 in
set_option maxHeartbeats 4000000 in
theorem psums_any (A : Option Addr) (n c : Nat) (a : List ByteArray) (B : Option Addr) (m d : Nat) (b : List ByteArray) (w : World) (RA : Row w A n 1 (strs a)) (RB : Row w B m 1 (strs b)) (hn : n ≤ 9223372036854775807) (hm : m ≤ 9223372036854775807)
    (hsa : ∀ s ∈ a, (s.size : Int) ≤ 9223372036854775807) (hsb : ∀ s ∈ b, (s.size : Int) ≤ 9223372036854775807) :
    Calls Try.prog 6 #[.slice A n c, .slice B m d] w fun e w' => e = .returned (.bool true) ∧ Ext w w' := by
  have T0 := hide pairs_any
  have hla := RA.strN
  have hlb := RB.strN
  have CA := hide (fun (w' : World) (E : Ext w w') => Put_any A n c a w' (RA.keep E) hn hsa)
  have CB := hide (fun (w' : World) (E : Ext w w') => Put_any B m d b w' (RB.keep E) hm hsb)
  by_cases oa : okB a
  · by_cases ob : okB b
    · have hn1 : 1 ≤ n := by have := oa.1; omega
      have hm1 : 1 ≤ m := by have := ob.1; omega
      have hn10 : n ≤ 10 := by have := oa.2.1; omega
      obtain ⟨ba, oA, rfl, hba, hca⟩ := RA.str (k := 0) (by omega)
      obtain ⟨bb, oB, rfl, hbb, hcb⟩ := RB.str (k := 0) (by omega)
      rw [Nat.add_zero] at hca hcb
      have OA := hide oa
      have OB := hide ob
      have HPA : Hid (∀ e (_ : (okB a ∧ e = Ending.returned (PutOk a (a.getD 0 ByteArray.empty).size)) ∨ (¬ okB a ∧ ∃ r : Int, r ≠ 0 ∧ e = .returned (.tuple #[.string ByteArray.empty, .string ByteArray.empty, .int .i64 r]))), e = .returned (PutOk a (a.getD 0 ByteArray.empty).size)) := hide fun e h => by
        rcases h with ⟨-, h⟩ | ⟨h, -⟩
        · exact h
        · exact absurd (unhide OA) h
      have HPB : Hid (∀ e (_ : (okB b ∧ e = Ending.returned (PutOk b (b.getD 0 ByteArray.empty).size)) ∨ (¬ okB b ∧ ∃ r : Int, r ≠ 0 ∧ e = .returned (.tuple #[.string ByteArray.empty, .string ByteArray.empty, .int .i64 r]))), e = .returned (PutOk b (b.getD 0 ByteArray.empty).size)) := hide fun e h => by
        rcases h with ⟨-, h⟩ | ⟨h, -⟩
        · exact h
        · exact absurd (unhide OB) h
      have CA' := hide (fun (w' : World) (E : Ext w w') => (unhide CA w' E).mono fun e w2 h => (⟨unhide HPA e h.1, h.2⟩ : e = .returned (PutOk a (a.getD 0 ByteArray.empty).size) ∧ Ext w' w2))
      have CB' := hide (fun (w' : World) (E : Ext w w') => (unhide CB w' E).mono fun e w2 h => (⟨unhide HPB e h.1, h.2⟩ : e = .returned (PutOk b (b.getD 0 ByteArray.empty).size) ∧ Ext w' w2))
      have hn0 : (0 : Int) < (n : Int) := by omega
      have hm0 : (0 : Int) < (m : Int) := by omega
      have hnz : ((n : Int) == 0) = false := by rw [beq_eq_false_iff_ne]; omega
      unfold PutOk at CA' CB'
      clear CA CB HPA HPB hsa hsb hn hm
      by_cases hnm : n = m
      · subst hnm
        by_cases hsz : (a.getD 0 ByteArray.empty).size = (b.getD 0 ByteArray.empty).size
        · have hs0 : ∀ i, i < n → (a.getD i ByteArray.empty).size = (a.getD 0 ByteArray.empty).size ∧ (a.getD i ByteArray.empty).size ≤ 64 ∧ (b.getD i ByteArray.empty).size = (a.getD 0 ByteArray.empty).size := fun i hi => by
            have h1 := oa.2.2 _ (getD_mem a ByteArray.empty (show i < a.length by omega))
            have h2 := ob.2.2 _ (getD_mem b ByteArray.empty (show i < b.length by omega))
            exact ⟨h1.2, h1.1, by rw [h2.2, hsz]⟩
          obtain ⟨okc, hpc⟩ := put_both a b _ rfl oa ob (by omega) hsz.symm
          rw [hla, hlb] at hpc
          rw [hla] at okc
          have CC := hide (fun (V : Option Addr) (cv : Nat) (w' : World) (R : Row w' V n 1 (strs (bothL a b n))) => (Put_any V n cv (bothL a b n) w' R (by omega) (fun s hs => by have := okc.2.2 s hs; omega)).mono fun e w2 h => (⟨by
            rcases h.1 with ⟨-, h1⟩ | ⟨h1, -⟩
            · rw [hpc] at h1; exact h1
            · exact absurd okc h1, h.2⟩ : e = Ending.returned (.tuple #[.string (sumS (strN ((List.range (a.getD 0 ByteArray.empty).size).map fun k => pc a [] k n)) (strN ((List.range (a.getD 0 ByteArray.empty).size).map fun k => pc b [] k n))), .string (sumS (strN ((List.range (a.getD 0 ByteArray.empty).size).map fun k => qc a [] k n)) (strN ((List.range (a.getD 0 ByteArray.empty).size).map fun k => qc b [] k n))), .int .i64 0]) ∧ Ext w' w2))
          have hz1 : (strN ((List.range (a.getD 0 ByteArray.empty).size).map fun k => pc a [] k a.length)).size = (a.getD 0 ByteArray.empty).size := by rw [strN_size]; simp
          have hz2 : (strN ((List.range (a.getD 0 ByteArray.empty).size).map fun k => qc a [] k a.length)).size = (a.getD 0 ByteArray.empty).size := by rw [strN_size]; simp
          have hz3 : (strN ((List.range (b.getD 0 ByteArray.empty).size).map fun k => pc b [] k b.length)).size = (a.getD 0 ByteArray.empty).size := by rw [strN_size, hsz]; simp
          have hz4 : (strN ((List.range (b.getD 0 ByteArray.empty).size).map fun k => qc b [] k b.length)).size = (a.getD 0 ByteArray.empty).size := by rw [strN_size, hsz]; simp
          have h64 := (hs0 0 (by omega)).2.1
          rw [← hsz] at CB' hz3 hz4
          rw [hla, hlb] at *
          generalize strN ((List.range (a.getD 0 ByteArray.empty).size).map fun k => pc a [] k n) = p1 at *
          generalize strN ((List.range (a.getD 0 ByteArray.empty).size).map fun k => qc a [] k n) = q1 at *
          generalize strN ((List.range (a.getD 0 ByteArray.empty).size).map fun k => pc b [] k n) = p2 at *
          generalize strN ((List.range (a.getD 0 ByteArray.empty).size).map fun k => qc b [] k n) = q2 at *
          have BP := hide (fun w : World => both_ok p1 p2 w (by omega) (by omega))
          have BQ := hide (fun w : World => both_ok q1 q2 w (by omega) (by omega))
          have BI := hide (fun (i : Nat) (hi : i < n) (w : World) => both_ok (a.getD i ByteArray.empty) (b.getD i ByteArray.empty) w (by have := hs0 i hi; omega) (hs0 i hi).2.1)
          have HRA := hide RA
          have HRB := hide RB
          have e12 : ((p1.size : Int) == (p2.size : Int)) = true := by rw [beq_iff_eq]; omega
          have e34 : ((q1.size : Int) == (q2.size : Int)) = true := by rw [beq_iff_eq]; omega
          have hbs := bothL_succ a b
          have HBS := hide hbs
          have hszN : (((a.getD 0 ByteArray.empty).size : Int) != ((b.getD 0 ByteArray.empty).size : Int)) = false := by rw [hsz]; simp
          have hszE : ((a.getD 0 ByteArray.empty).size : Int) = ((b.getD 0 ByteArray.empty).size : Int) := by rw [hsz]
          have hnnB : ((n : Int) != (n : Int)) = false := by simp
          clear hz1 hz2 hz3 hz4 hs0 okc hpc OA OB oa ob RA RB hbs hla hlb h64 hsz
          generalize a.getD 0 ByteArray.empty = s0 at *
          generalize b.getD 0 ByteArray.empty = t0 at *
          go_enter Try.func6, Try.ntmps6
          go_wp2_with fail
          refine (unhide T0 _).mono ?_
          rintro e w1 ⟨rfl, E1⟩
          go_wp2_with fail
          refine (unhide CA' _ E1).mono ?_
          rintro e w2 ⟨rfl, E2⟩
          go_wp2_with fail
          refine (unhide CB' _ (E1.trans E2)).mono ?_
          rintro e w3 ⟨rfl, E3⟩
          have F3 := (E1.trans E2).trans E3
          have hca := F3.keep hca
          have hcb := F3.keep hcb
          clear E1 E2 E3 CA' CB' T0
          go_upto_region 5 with fail
          go_quiet (fail)
          have F4 := F3.drewN nq
          generalize w3.drewN nq = w4 at *
          clear F3 hca hcb
          go_wp2
          go_loopw [11, 61] (fun v i wr => ∃ k : Nat, k ≤ n ∧ i = .int .i64 k ∧ wr.ownsRow w.heap.size 9 1 v k (strs (bothL a b k)) ∧ Ext w wr) (fun _ i _ => n - (intOf i).toNat)
          case atStart => exact ⟨0, Nat.zero_le _, rfl, World.ownsRow_nil _ _ _ _, F4⟩
          case round =>
            clear F4
            obtain ⟨k, hk, rfl, hown, hext⟩ := hrel
            by_cases hlt : k < n
            · obtain ⟨b1, o1, e1, hb1, hc1⟩ := (unhide HRA).str hlt
              obtain ⟨b2, o2, e2, hb2, hc2⟩ := (unhide HRB).str hlt
              injection e1 with e1
              injection e1 with e11 e12'
              subst e11; subst e12'
              injection e2 with e2
              injection e2 with e21 e22
              subst e21; subst e22
              have hc1 := hext.keep hc1
              have hc2 := hext.keep hc2
              have CI := hide (unhide BI k hlt)
              have hst := unhide HBS k
              generalize a.getD k ByteArray.empty = sa at *
              generalize b.getD k ByteArray.empty = sb at *
              have HST := hide hst
              have hne := fun q hq => (hown.lt q hq).1
              have HOW := hide hown
              have hbd : (k + 1) * 16 ≤ 140737488355328 ∧ k + 1 ≤ 9223372036854775807 := by omega
              have hk0 : (0 : Int) ≤ (k : Int) := by omega
              have hkn : (k : Int) < (n : Int) := by omega
              have hsz1 := hext.size
              clear hst hown
              generalize sumS sa sb = sc at *
              obtain ⟨ht0, ⟨i0, hi0, hz0, hz1, hz2⟩, -, -⟩ := strI
              go_upto_region 11 with fail
              go_region_held3 (fun w' => w'.cell? ⟨ba, oA + k, none⟩ = some (.string sa) ∧ w'.cell? ⟨bb, oB + k, none⟩ = some (.string sb)) (go_keep)
                (first
                  | (go_at_call 20; refine (unhide CI _).mono ?_; rintro e wq ⟨rfl, EQ⟩
                     have kq1 := EQ.keep (a := ⟨ba, oA + k, none⟩) (v := .string sa) (by simp [*])
                     have kq2 := EQ.keep (a := ⟨bb, oB + k, none⟩) (v := .string sb) (by simp [*]))
                  | (refine step_append_own rfl _ _ 36 rfl w.heap.size 9 i0 (.string ByteArray.empty) 1 16 ht0 hi0 hz0 hz1 hz2 rfl (by decide) _ k (strs (bothL a b k)) rfl ?o ⟨wq.heap.size, 0, none⟩ 1 1 [.string sc] rfl rfl ?c1 ?c2 ?c3 ?c4 ?c5 ?h
                     case o => exact World.ownsRow.alloc (row_ext (unhide HOW) ((Ext.refl _).drew.trans EQ)) _
                     case c1 =>
                       intro j u hj
                       match j, hj with
                       | 0, hj => simp at hj; subst hj; exact (World.cell?_alloc_at _ _ _ _ rfl).trans rfl
                     case c2 => intro u hu; simp at hu; subst hu; rfl
                     case c3 => unfold maxLen; omega
                     case c4 => omega
                     case c5 => have := EQ.size; simp at this; simp; omega
                     intro v' w' hown' hgrow _
                     have k1 := hgrow.cell (a := ⟨ba, oA + k, none⟩) (v := .string sa) (by simp [*]) (by intro hq; first | (have := hne ba hq; omega) | (have := hne ba hq.symm; omega))
                     have k2 := hgrow.cell (a := ⟨bb, oB + k, none⟩) (v := .string sb) (by simp [*]) (by intro hq; first | (have := hne bb hq; omega) | (have := hne bb hq.symm; omega))
                     have FX : Ext w w' := (((hext.drew.trans EQ).alloc _).grown hgrow hne)))
              have hown2 : w'.ownsRow w.heap.size 9 1 v' (k + 1) (strs (bothL a b (k + 1))) := by rw [unhide HST]; exact hown'
              clear hown' hgrow k1 k2
              go_wp2
              go_roundw
              case rel => exact ⟨k + 1, by omega, num_eqP (by omega), hown2, FX⟩
              case measure => simp [intOf]; omega
            · obtain rfl : k = n := by omega
              obtain ⟨V, cv, rfl, hrow, hvc, hvm, -⟩ := row_of_own hown
              have CV := hide (unhide CC V cv wr hrow)
              clear CC hown hrow HRA HRB BI HBS
              go_wp2_with fail
              refine (unhide CV).mono ?_
              rintro e w5 ⟨rfl, E5⟩
              go_wp2_with fail
              refine (unhide BP _).mono ?_
              rintro e w6 ⟨rfl, E6⟩
              go_wp2_with fail
              refine (unhide BQ _).mono ?_
              rintro e w7 ⟨rfl, E7⟩
              go_wp2
              go_ret
              exact ⟨rfl, ((hext.trans E5).trans E6).trans E7⟩
        · have hszN : (((a.getD 0 ByteArray.empty).size : Int) != ((b.getD 0 ByteArray.empty).size : Int)) = true := by rw [bne_iff_ne]; omega
          have hszE : ¬ ((a.getD 0 ByteArray.empty).size : Int) = ((b.getD 0 ByteArray.empty).size : Int) := by omega
          have hnnB : ((n : Int) != (n : Int)) = false := by simp
          clear OA OB oa ob hla hlb RA RB hn1 hm1 hn10 hsz
          generalize strN ((List.range (a.getD 0 ByteArray.empty).size).map fun k => pc a [] k a.length) = p1 at *
          generalize strN ((List.range (a.getD 0 ByteArray.empty).size).map fun k => qc a [] k a.length) = q1 at *
          generalize strN ((List.range (b.getD 0 ByteArray.empty).size).map fun k => pc b [] k b.length) = p2 at *
          generalize strN ((List.range (b.getD 0 ByteArray.empty).size).map fun k => qc b [] k b.length) = q2 at *
          generalize a.getD 0 ByteArray.empty = s0 at *
          generalize b.getD 0 ByteArray.empty = t0 at *
          go_enter Try.func6, Try.ntmps6
          go_wp2_with fail
          refine (unhide T0 _).mono ?_
          rintro e w1 ⟨rfl, E1⟩
          go_wp2_with fail
          refine (unhide CA' _ E1).mono ?_
          rintro e w2 ⟨rfl, E2⟩
          go_wp2_with fail
          refine (unhide CB' _ (E1.trans E2)).mono ?_
          rintro e w3 ⟨rfl, E3⟩
          have F3 := (E1.trans E2).trans E3
          have hca := F3.keep hca
          have hcb := F3.keep hcb
          go_upto_region 5 with fail
          go_quiet (fail)
          go_wp2
          go_ret
          exact ⟨rfl, F3.drewN _⟩
      · have hnB : ((n : Int) != (m : Int)) = true := by rw [bne_iff_ne]; omega
        have hnB2 : ¬ (n : Int) = (m : Int) := by omega
        clear OA OB oa ob hla hlb RA RB hnm hn1 hm1 hn10
        generalize strN ((List.range (a.getD 0 ByteArray.empty).size).map fun k => pc a [] k a.length) = p1 at *
        generalize strN ((List.range (a.getD 0 ByteArray.empty).size).map fun k => qc a [] k a.length) = q1 at *
        generalize strN ((List.range (b.getD 0 ByteArray.empty).size).map fun k => pc b [] k b.length) = p2 at *
        generalize strN ((List.range (b.getD 0 ByteArray.empty).size).map fun k => qc b [] k b.length) = q2 at *
        go_enter Try.func6, Try.ntmps6
        go_wp2_with fail
        refine (unhide T0 _).mono ?_
        rintro e w1 ⟨rfl, E1⟩
        go_wp2_with fail
        refine (unhide CA' _ E1).mono ?_
        rintro e w2 ⟨rfl, E2⟩
        go_wp2_with fail
        refine (unhide CB' _ (E1.trans E2)).mono ?_
        rintro e w3 ⟨rfl, E3⟩
        go_upto_region 5 with fail
        go_quiet (fail)
        go_wp2
        go_ret
        exact ⟨rfl, ((E1.trans E2).trans E3).drewN _⟩
    · exact psums_bad A n c a B m d b w CA CB T0 (fun h => ob h.2)
  · exact psums_bad A n c a B m d b w CA CB T0 (fun h => oa h.1)

theorem psums_law (A : Option Addr) (n c : Nat) (a : List ByteArray) (B : Option Addr) (m d : Nat) (b : List ByteArray) (w : World) (hA : SliceIn w A n c 1 16 (strs a)) (hsa : ∀ s ∈ a, (s.size : Int) ≤ 9223372036854775807) (hB : SliceIn w B m d 1 16 (strs b)) (hsb : ∀ s ∈ b, (s.size : Int) ≤ 9223372036854775807) :
    Calls Try.prog 6 #[.slice A n c, .slice B m d] w fun e w' => e = .returned (.bool true) ∧ Ext w w' :=
  psums_any A n c a B m d b w hA.1 hB.1 (Nat.le_trans hA.2.1 hA.2.2.2.1) (Nat.le_trans hB.2.1 hB.2.2.2.1) hsa hsb
end Go.Proofs.Ytkcmlcomonfoiaa
