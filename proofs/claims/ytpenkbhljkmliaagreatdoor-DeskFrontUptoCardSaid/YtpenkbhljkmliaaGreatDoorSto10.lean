/-
  The contract of (*Store).torn, whole.
-/
import Derived.Test.YtpenkbhljkmliaaGreatDoorSto9
set_option linter.unusedVariables false
set_option linter.unusedSimpArgs false
namespace Go.Proofs.YtpenkbhljkmliaaGreatDoor
open Go.RowKit Go.BigFrame

theorem grown_alloc_drew {w w' : World} {o : Obj} {r : Option Nat} (h : (w.alloc o).drew.grownBy w' r) : w.grownBy w' r := grown_alloc (o := o) ⟨h.os, h.tape, h.output, h.size, h.block⟩
theorem tornK_none (σ : Sto) (key : Nat) (s : ByteArray) : σ.tornK key s [] = σ.kept := by
  funext i k
  simp [Sto.tornK]
theorem take_not {l : List Nat} (hn : l.Nodup) {x : Nat} (h : x < l.length) : l.getD x 0 ∉ l.take x := by
  intro hm
  obtain ⟨y, hy, he⟩ := List.getElem_of_mem hm
  rw [List.length_take] at hy
  rw [List.getElem_take] at he
  have h1 : l.getD y 0 = l.getD x 0 := by
    rw [← he, List.getD_eq_getElem?_getD, List.getElem?_eq_getElem (show y < l.length by omega)]; rfl
  have := Wm.getD_inj hn (show y < l.length by omega) h h1
  omega
theorem new_frozen (W : World) (cs : Array Value) (T : TypeId) (j : Nat) : (W.alloc (.cells cs T)).frozen? ⟨W.heap.size, j, none⟩ = false := by simp
theorem new3 (w : World) (a b c : Array Value) (A B C : TypeId) (j : Nat) : (((w.alloc (.cells a A)).alloc (.cells b B)).alloc (.cells c C)).cell? ⟨w.heap.size, j, none⟩ = a[j]? ∧ (((w.alloc (.cells a A)).alloc (.cells b B)).alloc (.cells c C)).cell? ⟨w.heap.size + 1, j, none⟩ = b[j]? ∧
    (((w.alloc (.cells a A)).alloc (.cells b B)).alloc (.cells c C)).cell? ⟨w.heap.size + 2, j, none⟩ = c[j]? ∧ (((w.alloc (.cells a A)).alloc (.cells b B)).alloc (.cells c C)).frozen? ⟨w.heap.size + 2, j, none⟩ = false := by
  have s1 : (w.alloc (.cells a A)).heap.size = w.heap.size + 1 := by simp
  have s2 : ((w.alloc (.cells a A)).alloc (.cells b B)).heap.size = w.heap.size + 2 := by simp
  refine ⟨?_, ?_, ?_, ?_⟩
  · refine ((((Ext.refl (w.alloc (.cells a A))).alloc (.cells b B)).alloc (.cells c C)).cell (p := ⟨w.heap.size, j, none⟩) (by simp)).trans ?_
    exact new_cell w a A j
  · refine (((Ext.refl ((w.alloc (.cells a A)).alloc (.cells b B))).alloc (.cells c C)).cell (p := ⟨w.heap.size + 1, j, none⟩) (by rw [s2]; show w.heap.size + 1 < _; omega)).trans ?_
    rw [← s1]
    exact new_cell _ b B j
  · rw [← s2]
    exact new_cell _ c C j
  · rw [← s2]
    exact new_frozen _ c C j
theorem tornK_same (σ : Sto) (key : Nat) (s : ByteArray) {l : List Nat} (hn : l.Nodup) {x : Nat} (h : x < l.length) : σ.tornK key s (l.take x) (l.getD x 0) key = σ.kept (l.getD x 0) key := by
  unfold Sto.tornK
  rw [if_neg (fun e => take_not hn h e.2)]
theorem tornK_step (σ : Sto) (key : Nat) (s : ByteArray) {l : List Nat} (hn : l.Nodup) {x : Nat} (h : x < l.length) :
    setK (σ.tornK key s (l.take x)) (l.getD x 0) key (σ.kept (l.getD x 0) key ++ [(σ.wr + 1, σ.pce s (l.getD x 0))]) = σ.tornK key s (l.take (x + 1)) := by
  funext a b
  rw [take_snoc l 0 h]
  unfold setK Sto.tornK
  by_cases c : a = l.getD x 0 ∧ b = key
  · obtain ⟨rfl, rfl⟩ := c
    rw [if_pos ⟨rfl, rfl⟩, if_pos ⟨rfl, by simp⟩]
  · rw [if_neg c]
    by_cases d : b = key ∧ a ∈ l.take x
    · rw [if_pos d, if_pos ⟨d.1, List.mem_append_left _ d.2⟩]
    · rw [if_neg d, if_neg (fun e => by
        rcases List.mem_append.1 e.2 with h1 | h1
        · exact d ⟨e.1, h1⟩
        · exact c ⟨List.mem_singleton.1 h1, e.1⟩)]

set_option maxRecDepth 100000 in
set_option maxHeartbeats 8000000 in
theorem torn_ok {b0 p g : Nat} {w : World} {v : Nat → Nat → Value} {σ : Sto} (S : St b0 w p g v σ) (Fi : Fine σ) (kind n : Int) (key : Nat) (hkey : key < 3) (s : ByteArray) (hss : (s.size : Int) ≤ 9223372036854775807) :
    Calls Tryz.prog 63 #[.pointer (some ⟨p, 0, none⟩), deedV kind (key : Int) n s] w fun e w' => e = .returned (tellV (σ.tornS key n s).1) ∧ Became b0 w p g v σ w' (σ.tornS key n s).2 := by
  have HS := hide S
  have HF := hide Fi
  have HFH := hide (show ∀ x, foot p g v σ.N x → x < w.heap.size from fun x hx => S.foot_hi hx)
  have CS := hide (fun W (E : Ext w W) => split_ok (S.keep E) Fi.k1 Fi.kn Fi.n10 Fi.few s hss)
  clear S Fi
  unfold deedV
  go_enter Tryz.func63, Tryz.ntmps63
  go_wp2_with fail
  refine (unhide CS _ ((((Ext.refl w).alloc _).alloc _).alloc _)).mono ?_
  rintro e w1 ⟨ho, E1⟩
  have HE1 := hide (((((Ext.refl w).alloc (.cells #[.pointer (some ⟨p, 0, none⟩)] 31)).alloc (.cells #[.int .i64 kind, .int .i64 (key : Int), .int .i64 n, .string s] 70)).alloc (.cells #[.string ⟨#[]⟩, .int .i64 0, .int .i64 0, .int .i64 0] 67)).trans E1)
  have hn3 := new3 w #[.pointer (some ⟨p, 0, none⟩)] #[.int .i64 kind, .int .i64 (key : Int), .int .i64 n, .string s] #[.string ⟨#[]⟩, .int .i64 0, .int .i64 0, .int .i64 0] 31 70 67
  have hs3 : ((((w.alloc (.cells #[.pointer (some ⟨p, 0, none⟩)] 31)).alloc (.cells #[.int .i64 kind, .int .i64 (key : Int), .int .i64 n, .string s] 70)).alloc (.cells #[.string ⟨#[]⟩, .int .i64 0, .int .i64 0, .int .i64 0] 67))).heap.size = w.heap.size + 3 := by simp
  have r0 : w1.cell? ⟨w.heap.size + 2, 0, none⟩ = some (.string ⟨#[]⟩) := (E1.cell (p := ⟨w.heap.size + 2, 0, none⟩) (by rw [hs3]; show w.heap.size + 2 < _; omega)).trans (hn3 0).2.2.1
  have r1 : w1.cell? ⟨w.heap.size + 2, 1, none⟩ = some (.int .i64 0) := (E1.cell (p := ⟨w.heap.size + 2, 1, none⟩) (by rw [hs3]; show w.heap.size + 2 < _; omega)).trans (hn3 1).2.2.1
  have r2 : w1.cell? ⟨w.heap.size + 2, 2, none⟩ = some (.int .i64 0) := (E1.cell (p := ⟨w.heap.size + 2, 2, none⟩) (by rw [hs3]; show w.heap.size + 2 < _; omega)).trans (hn3 2).2.2.1
  have r3 : w1.cell? ⟨w.heap.size + 2, 3, none⟩ = some (.int .i64 0) := (E1.cell (p := ⟨w.heap.size + 2, 3, none⟩) (by rw [hs3]; show w.heap.size + 2 < _; omega)).trans (hn3 3).2.2.1
  have d0 : w1.cell? ⟨w.heap.size, 0, none⟩ = some (.pointer (some ⟨p, 0, none⟩)) := (E1.cell (p := ⟨w.heap.size, 0, none⟩) (by rw [hs3]; show w.heap.size < _; omega)).trans (hn3 0).1
  have d1 : w1.cell? ⟨w.heap.size + 1, 1, none⟩ = some (.int .i64 (key : Int)) := (E1.cell (p := ⟨w.heap.size + 1, 1, none⟩) (by rw [hs3]; show w.heap.size + 1 < _; omega)).trans (hn3 1).2.1
  have d2 : w1.cell? ⟨w.heap.size + 1, 2, none⟩ = some (.int .i64 n) := (E1.cell (p := ⟨w.heap.size + 1, 2, none⟩) (by rw [hs3]; show w.heap.size + 1 < _; omega)).trans (hn3 2).2.1
  have rf : ∀ j, w1.frozen? ⟨w.heap.size + 2, j, none⟩ = false := fun j => (E1.frozen (p := ⟨w.heap.size + 2, j, none⟩) (by rw [hs3]; show w.heap.size + 2 < _; omega)).trans (hn3 j).2.2.2
  have hrb1 : w.heap.size + 2 < w1.heap.size := cell_lt r0
  clear hn3 hs3
  rcases ho with ⟨hne, rfl⟩ | ⟨hz, gq, rfl, M1⟩
  · have HP := hide (show σ.tornS key n s = (Ans.no (σ.splitE s), σ) from by
      have : σ.tornE key n s = σ.splitE s := by unfold Sto.tornE; rw [if_pos hne]
      unfold Sto.tornS; rw [this, if_pos hne])
    have hB : (σ.splitE s != 0) = true := by rw [bne_iff_ne]; exact hne
    generalize σ.splitE s = r at *
    clear hne E1 d0 d1 d2
    go_wp2
    refine bodyPost_ret (v := .tuple #[.agg #[.string ⟨#[]⟩, .int .i64 0, .int .i64 0, .int .i64 0], .int .i64 r]) (by simp [results, Tryz.results63, go_sem, World.cell?_setCell_same', r0, r1, r2, r3]) rfl ?_
    rw [unhide HP]
    exact ⟨rfl, Became.of_ext (unhide HS) ((unhide HE1).set4 (by omega) _ _ _ _)⟩
  · have S1 := (unhide HS).keep (unhide HE1)
    have CU := hide (fun W (E : Ext w1 W) => up_ok (S1.keep E) (unhide HF).n10)
    have HM1 := hide M1
    have hgq : w.heap.size ≤ gq := Nat.le_trans (Ext.size ((((Ext.refl w).alloc _).alloc _).alloc _)) ((M1.lt gq rfl).1)
    have HZ := hide (show σ.tornE key n s = if n < 0 ∨ (σ.ups.length : Int) < n then 1 else if (σ.ups.take n.toNat).any (fun i => decide (8 ≤ (σ.kept i key).length)) then 11 else 0 from by unfold Sto.tornE; rw [if_neg (by simpa using hz)])
    clear S1 M1 hz
    go_wp2_with fail
    refine (unhide CU _ (Ext.refl _)).mono ?_
    rintro e w2 ⟨⟨u, rfl, own⟩, E2⟩
    obtain ⟨A, cA, rfl, RU, hcA, hcm, hbA⟩ := row_of_own own
    have q0 := E2.keep r0
    have q1 := E2.keep r1
    have q2 := E2.keep r2
    have q3 := E2.keep r3
    have e0 := E2.keep d0
    have e1 := E2.keep d1
    have e2 := E2.keep d2
    have qf : ∀ j, w2.frozen? ⟨w.heap.size + 2, j, none⟩ = false := fun j => (E2.frozen (p := ⟨w.heap.size + 2, j, none⟩) hrb1).trans (rf j)
    have HE2 := hide ((unhide HE1).trans E2)
    have HM2 := hide ((unhide HM1).keep E2)
    have HRU := hide RU
    have HUN := hide σ.ups_nodup
    have hsz1 := (unhide HE1).size
    have HBA := hide (show ∀ b o, A = some ⟨b, o, none⟩ → w.heap.size ≤ b from fun b o h => by have := (hbA b o h).1; omega)
    clear own RU hbA r0 r1 r2 r3 rf d0 d1 d2 E2 CU CS HM1 E1
    have hUN : σ.ups.length ≤ 10 := Nat.le_trans σ.ups_le (unhide HF).n10
    obtain ⟨U, hU⟩ : ∃ U, U = σ.ups.length := ⟨_, rfl⟩
    rw [← hU] at HRU HZ hUN hcA ⊢
    have HU := hide hU
    clear hU
    by_cases hn0 : n < 0
    · have HP := hide (show σ.tornS key n s = (Ans.no 1, σ) from by
        have : σ.tornE key n s = 1 := by rw [unhide HZ, if_pos (.inl hn0)]
        unfold Sto.tornS; rw [this, if_pos (by decide)])
      clear HZ
      go_wp2
      refine bodyPost_ret (v := .tuple #[.agg #[.string ⟨#[]⟩, .int .i64 0, .int .i64 0, .int .i64 0], .int .i64 1]) (by simp [results, Tryz.results63, go_sem, World.cell?_setCell_same', q0, q1, q2, q3]) rfl ?_
      rw [unhide HP]
      exact ⟨rfl, Became.of_ext (unhide HS) ((unhide HE2).set4 (by omega) _ _ _ _)⟩
    by_cases hnU : (U : Int) < n
    · have HP := hide (show σ.tornS key n s = (Ans.no 1, σ) from by
        have : σ.tornE key n s = 1 := by rw [unhide HZ, if_pos (.inr hnU)]
        unfold Sto.tornS; rw [this, if_pos (by decide)])
      clear HZ
      go_wp2
      refine bodyPost_ret (v := .tuple #[.agg #[.string ⟨#[]⟩, .int .i64 0, .int .i64 0, .int .i64 0], .int .i64 1]) (by simp [results, Tryz.results63, go_sem, World.cell?_setCell_same', q0, q1, q2, q3]) rfl ?_
      rw [unhide HP]
      exact ⟨rfl, Became.of_ext (unhide HS) ((unhide HE2).set4 (by omega) _ _ _ _)⟩
    obtain ⟨m, rfl⟩ : ∃ m : Nat, n = (m : Int) := ⟨n.toNat, by omega⟩
    rw [if_neg (by omega), Int.toNat_natCast] at HZ
    have hmU : m ≤ U := by omega
    have hmI : ¬ (m : Int) < 0 := hn0
    have hmJ : ¬ (U : Int) < (m : Int) := hnU
    have hcI : (m : Int) ≤ (cA : Int) := by omega
    have hm0 : (0 : Int) ≤ (m : Int) := by omega
    have RT := (unhide HRU).take (k := m) hmU
    rw [Nat.mul_one, nats_take] at RT
    have HRT := hide RT
    have HTL := hide RT.numN
    have CF := hide (full_contains A m cA (σ.ups.take m) ⟨w.heap.size, 0, none⟩ ⟨w.heap.size + 1, 0, none⟩ w2 RT (fun i => decide (8 ≤ (σ.kept i key).length)) (fun k hk W E => torn1_ok ((unhide HS).keep ((unhide HE2).trans E)) ((σ.ups.take m).getD k 0) key w.heap.size (w.heap.size + 1) (Sto.ups_lt (List.mem_of_mem_take (getD_mem (σ.ups.take m) 0 (by rw [RT.numN]; exact hk)))) hkey (E.keep e0) (E.keep e1)) (by omega))
    clear RT hn0 hnU
    go_wp2_with fail
    refine (unhide CF).mono ?_
    rintro e w3 ⟨rfl, E3⟩
    have z0 := E3.keep q0
    have z1 := E3.keep q1
    have z2 := E3.keep q2
    have z3 := E3.keep q3
    have e0 := E3.keep e0
    have e1 := E3.keep e1
    have hrb2 : w.heap.size + 2 < w2.heap.size := cell_lt q0
    have zf : ∀ j, w3.frozen? ⟨w.heap.size + 2, j, none⟩ = false := fun j => (E3.frozen (p := ⟨w.heap.size + 2, j, none⟩) hrb2).trans (qf j)
    have hrb3 : w.heap.size + 2 < w3.heap.size := cell_lt z0
    have HE3 := hide ((unhide HE2).trans E3)
    have HM3 := hide ((unhide HM2).keep E3)
    have HRT3 := hide ((unhide HRT).keep E3)
    clear q0 q1 q2 q3 qf CF HRT HM2 HRU E3
    obtain ⟨q, hq⟩ : ∃ q, q = (σ.ups.take m).any (fun i => decide (8 ≤ (σ.kept i key).length)) := ⟨_, rfl⟩
    rw [← hq] at HZ ⊢
    clear hq
    cases q with
    | true =>
      have HP := hide (show σ.tornS key (m : Int) s = (Ans.no 11, σ) from by
        have : σ.tornE key (m : Int) s = 11 := by rw [unhide HZ, if_pos rfl]
        unfold Sto.tornS; rw [this, if_pos (by decide)])
      clear HZ
      go_wp2
      refine bodyPost_ret (v := .tuple #[.agg #[.string ⟨#[]⟩, .int .i64 0, .int .i64 0, .int .i64 0], .int .i64 11]) (by simp [results, Tryz.results63, go_sem, World.cell?_setCell_same', z0, z1, z2, z3]) rfl ?_
      rw [unhide HP]
      exact ⟨rfl, Became.of_ext (unhide HS) ((unhide HE3).set4 (by omega) _ _ _ _)⟩
    | false =>
      have HP := hide (show σ.tornS key (m : Int) s = (⟨ByteArray.empty, σ.wr + 1, 0, 0⟩, { σ with wr := σ.wr + 1, kept := σ.tornK key s (σ.ups.take m) }) from by
        have : σ.tornE key (m : Int) s = 0 := by rw [unhide HZ, if_neg (by decide)]
        unfold Sto.tornS; rw [this, if_neg (by decide), Int.toNat_natCast])
      have S1 := (unhide HS).keep (unhide HE3)
      have c5 := S1.cwr
      have f5 := S1.fwr
      have hfew := (unhide HF).few
      have hsum : IntKind.i64.wrap ((σ.wr : Int) + 1) = (σ.wr : Int) + 1 := IntWalk.i64_in _ (by omega)
      have hcast : ((σ.wr + 1 : Nat) : Int) = (σ.wr : Int) + 1 := by omega
      have SW := S1.write (σ.wr + 1)
      rw [hcast] at SW
      obtain ⟨S2, O2⟩ := SW
      obtain ⟨wy, hwy⟩ : ∃ wy, wy = w3.setCell ⟨p, 5, none⟩ (.int .i64 ((σ.wr : Int) + 1)) := ⟨_, rfl⟩
      rw [← hwy] at S2 O2
      have hsy : wy.heap.size = w3.heap.size := by rw [hwy]; simp
      have E4 := (Ext.refl wy).alloc (.cells #[.int .i64 ((σ.wr : Int) + 1), .int .i64 0] 65)
      have HNF := hide (show ∀ b, w.heap.size ≤ b → ¬ foot p g v σ.N b from fun b hb h => by have := unhide HFH b h; omega)
      have hsz3 := (unhide HE3).size
      have O4 : Only (foot p g v σ.N) w3 (wy.alloc (.cells #[.int .i64 ((σ.wr : Int) + 1), .int .i64 0] 65)) := O2.trans (G := fun _ => False) (Only.of_ext E4) fun _ h => h.elim
      have HS4 := hide (S2.keep E4)
      have hA : ∀ j, (wy.alloc (.cells #[.int .i64 ((σ.wr : Int) + 1), .int .i64 0] 65)).cell? ⟨w3.heap.size, j, none⟩ = (#[.int .i64 ((σ.wr : Int) + 1), .int .i64 0] : Array Value)[j]? := fun j => by rw [← hsy]; exact new_cell _ _ _ _
      obtain ⟨w4, hw4⟩ : ∃ w4, w4 = wy.alloc (.cells #[.int .i64 ((σ.wr : Int) + 1), .int .i64 0] 65) := ⟨_, rfl⟩
      have HW4 := hide (hwy ▸ hw4 : w4 = (w3.setCell ⟨p, 5, none⟩ (.int .i64 ((σ.wr : Int) + 1))).alloc (.cells #[.int .i64 ((σ.wr : Int) + 1), .int .i64 0] 65))
      rw [← hw4] at HS4 O4 hA
      have a0 := hA 0
      have a1 := hA 1
      simp only [List.getElem?_toArray, List.getElem?_cons_zero, List.getElem?_cons_succ] at a0 a1
      have HA0 := hide a0
      have HA1 := hide a1
      have k0 := hide (O4.keepc e0 (unhide HNF _ (Nat.le_refl _)))
      have k1 := hide (O4.keepc e1 (unhide HNF _ (by show w.heap.size ≤ w.heap.size + 1; omega)))
      have y0 := hide (O4.keepc z0 (unhide HNF _ (by show w.heap.size ≤ w.heap.size + 2; omega)))
      have y1 := hide (O4.keepc z1 (unhide HNF _ (by show w.heap.size ≤ w.heap.size + 2; omega)))
      have y2 := hide (O4.keepc z2 (unhide HNF _ (by show w.heap.size ≤ w.heap.size + 2; omega)))
      have y3 := hide (O4.keepc z3 (unhide HNF _ (by show w.heap.size ≤ w.heap.size + 2; omega)))
      have yf := hide (show ∀ j, w4.frozen? ⟨w.heap.size + 2, j, none⟩ = false from fun j => (World.frozen?_of_block (a := ⟨w.heap.size + 2, j, none⟩) (O4.block _ hrb3 (unhide HNF _ (by show w.heap.size ≤ w.heap.size + 2; omega)))).trans (zf j))
      have HPC := hide (show ∀ i, i < σ.N → w4.cell? ⟨gq, i, none⟩ = some (.string (σ.pce s i)) from fun i hi => by
        have hc := (unhide HM3).cell hi
        rw [List.getD_eq_getElem?_getD, strs_get _ _ (by rw [splitL_length]; exact hi)] at hc
        exact O4.keepc hc (unhide HNF gq hgq))
      have HRU := hide (show ∀ x, x < m → ∃ b o, A = some ⟨b, o, none⟩ ∧ w4.cell? ⟨b, o + x, none⟩ = some (.int .i64 ((σ.ups.getD x 0 : Nat) : Int)) from fun x hx => by
        obtain ⟨b, o, hA', hb', hc'⟩ := (unhide HRT3).nat hx
        refine ⟨b, o, hA', ?_⟩
        have : (σ.ups.take m).getD x 0 = σ.ups.getD x 0 := by simp only [List.getD_eq_getElem?_getD, List.getElem?_take_of_lt hx]
        rw [this] at hc'
        exact O4.keepc hc' (unhide HNF _ (unhide HBA b o hA')))
      have HO4 := hide ((Only.of_ext (F := foot p g v σ.N) (unhide HE3)).trans O4 fun _ h => .inl h)
      have hrb4 : w.heap.size + 2 < w4.heap.size := cell_lt (unhide y0)
      clear hA a0 a1 S1 S2 O2 O4 E4 hw4 hwy hcast HM3 HRT3 hsy HZ
      go_wp2
      rw [← unhide HW4]
      have HB0 := hide (Became.same (unhide HS4))
      rw [show σ.kept = σ.tornK key s (σ.ups.take 0) from (tornK_none σ key s).symm] at HB0
      go_loopw [59] (fun i wr => ∃ x : Nat, x ≤ m ∧ i = .int .i64 x ∧ Hid (Became b0 w4 p g v { σ with wr := σ.wr + 1 } wr { σ with wr := σ.wr + 1, kept := σ.tornK key s (σ.ups.take x) })) (fun i _ => m - (intOf i).toNat)
      case atStart => exact ⟨0, Nat.zero_le _, rfl, HB0⟩
      case round =>
        obtain ⟨x, hx, rfl, HB⟩ := hrel
        by_cases hlt : x < m
        · obtain ⟨i, hi⟩ : ∃ i, i = σ.ups.getD x 0 := ⟨_, rfl⟩
          have hxU : x < σ.ups.length := by rw [← unhide HU]; omega
          have hiN : i < σ.N := by rw [hi]; exact Sto.ups_lt (getD_mem σ.ups 0 hxU)
          obtain ⟨bu, ou, rfl, hcu⟩ := unhide HRU x hlt
          rw [← hi] at hcu
          obtain ⟨v', S', O', F'⟩ := unhide HB
          have n4 : wr.cell? ⟨p, 4, none⟩ = some (.slice (some ⟨g, 0, none⟩) σ.N σ.N) := S'.cnodes
          have kd0 := O'.keepc (unhide k0) (unhide HNF _ (Nat.le_refl _))
          have kd1 := O'.keepc (unhide k1) (unhide HNF _ (by show w.heap.size ≤ w.heap.size + 1; omega))
          have a0 := O'.keepc (unhide HA0) (unhide HNF _ hsz3)
          have a1 := O'.keepc (unhide HA1) (unhide HNF _ hsz3)
          have pc := O'.keepc (unhide HPC i hiN) (unhide HNF _ hgq)
          have uc := O'.keepc hcu (unhide HNF _ (unhide HBA _ _ rfl))
          have kc := S'.ckept i key hiN hkey
          have kf := S'.fg (i * 4 + 1 + key)
          have ko := S'.own i key hiN hkey
          have hsame : σ.tornK key s (σ.ups.take x) i key = σ.kept i key := by rw [hi]; exact tornK_same σ key s (unhide HUN) hxU
          rw [show ({ σ with wr := σ.wr + 1, kept := σ.tornK key s (σ.ups.take x) } : Sto).kept i key = σ.kept i key from hsame] at ko
          have hlen := (unhide HF).len i key hiN hkey
          obtain ⟨Ak, ck, hvk, -⟩ := row_of_own ko
          rw [hvk] at kc ko
          have HVK := hide hvk
          have HKO := hide ko
          have HI := hide hi
          have HS' := hide S'
          have HO' := hide O'
          have HF' := hide F'
          have hiI : (i : Int) < (σ.N : Int) := by omega
          have hkI : (key : Int) < 3 := by omega
          have hxI : (x : Int) < (m : Int) := by omega
          obtain ⟨L, hL⟩ : ∃ L, L = (σ.kept i key).length := ⟨_, rfl⟩
          rw [← hL] at kc hlen HKO HVK
          have HL := hide hL
          have hbase : b0 ≤ wr.heap.size := by have h1 := S'.g_lo; have h2 := S'.g_hi; omega
          clear S' O' F' hcu hi ko hvk hsame hL
          go_wp2
          go_quiet (fail)
          obtain ⟨wd, hwd⟩ : ∃ wd, wd = wr.drewN nq := ⟨_, rfl⟩
          rw [← hwd]
          have ED : Ext wr wd := by rw [hwd]; exact (Ext.refl wr).drewN nq
          have HSd := hide ((unhide HS').keep ED)
          have HOd := hide ((unhide HO').trans (G := fun _ => False) (Only.of_ext ED) fun _ h => h.elim)
          have HKd := hide (row_ext (unhide HKO) ED)
          have hgs : g < wd.heap.size := (unhide HSd).g_hi
          have kf : wd.frozen? ⟨g, i * 4 + 1 + key, none⟩ = false := (unhide HSd).fg _
          have kc := ED.keep kc
          have a0 := ED.keep a0
          have a1 := ED.keep a1
          have pc := ED.keep pc
          have kcA := fun o => ((Ext.refl wd).alloc o).keep kc
          have a0A := fun o => ((Ext.refl wd).alloc o).keep a0
          have a1A := fun o => ((Ext.refl wd).alloc o).keep a1
          have pcA := fun o => ((Ext.refl wd).alloc o).keep pc
          have hbase : b0 ≤ wd.heap.size := Nat.le_trans hbase ED.size
          have hoffg := (unhide HSd).offg i key hiN hkey
          rw [unhide HVK] at hoffg
          have HOG := hide hoffg
          clear ED hwd kd0 kd1 uc n4 hoffg HB
          go_wp2
          apply share3 (A := fun bz cz w' => w'.ownsRow b0 135 3 (.slice (some ⟨bz, 0, none⟩) (L + 1) cz) (L + 1) (kps (σ.kept i key) ++ [.int .i64 ((σ.wr : Int) + 1), .int .i64 0, .string (σ.pce s i)]) ∧ wd.grownBy w' (Value.slice Ak L ck).ownBlock ∧ ((Value.slice (some ⟨bz, 0, none⟩) (L + 1) cz).ownBlock = (Value.slice Ak L ck).ownBlock ∨ wd.heap.size ≤ bz))
          · intro H
            go_region_law (first
              | (refine step_app_at rfl (.tmp 76) (.tmp 83) 136 rfl keptR (base := b0) (n := L) (xs := kps (σ.kept i key)) rfl ?ho [.int .i64 ((σ.wr : Int) + 1), .int .i64 0, .string (σ.pce s i)] rfl rfl ?hc rfl ?hd ?hb ?_; (case ho => first | exact row_ext (unhide HKd) ((Ext.refl wd).alloc _) | exact row_ext (unhide HKd) ((Ext.refl wd).alloc _).drew); (case hc => exact fresh_cells _ #[.int .i64 ((σ.wr : Int) + 1), .int .i64 0, .string (σ.pce s i)] _); (case hd => omega); (case hb => simp; omega); intro v2 w2' o1 o2 o3; obtain ⟨bz, cz, rfl, -⟩ := row_open o1 (Nat.succ_pos _); have o4 : wd.grownBy w2' (Value.slice Ak L ck).ownBlock := (by first | exact grown_alloc o2 | exact grown_alloc_drew o2); have gk := (World.cell?_of_block (a := ⟨g, i * 4 + 1 + key, none⟩) (o4.block g hgs (fun e => unhide HOG e.symm))).trans kc; have gf := (World.frozen?_of_block (a := ⟨g, i * 4 + 1 + key, none⟩) (o4.block g hgs (fun e => unhide HOG e.symm))).trans kf; have HH := hide (H bz cz w2' ⟨o1, o4, (by rcases o3 with h | h; exact .inl h; exact .inr (by simp only [Value.ownBlock] at h; injection h with h; simp at h; omega))⟩)))
            all_goals exact unhide HH
          rintro bz cz w5 ⟨o1, o2, o3⟩
          have hcast : ((σ.wr + 1 : Nat) : Int) = (σ.wr : Int) + 1 := by omega
          rw [show ([.int .i64 ((σ.wr : Int) + 1), .int .i64 0, .string (σ.pce s i)] : List Value) = kps [(σ.wr + 1, σ.pce s i)] from by simp [kps, hcast], kps_append] at o1
          have hll : (σ.kept i key ++ [(σ.wr + 1, σ.pce s i)]).length = L + 1 := by rw [List.length_append, ← unhide HL]; rfl
          rw [← unhide HVK] at o2 o3
          obtain ⟨T1, T2, T3⟩ := (unhide HSd).turn hiN hkey (l := σ.kept i key ++ [(σ.wr + 1, σ.pce s i)]) (by rw [hll]; exact o1) o2 (.inr (by
            rcases o3 with h | h
            · exact .inl h
            · exact .inr ⟨bz, rfl, h⟩))
          have HB3 := hide ((Became.trans_ (unhide HOd) (unhide HF') ⟨_, T1, T2, T3⟩ rfl).to (τ := { σ with wr := σ.wr + 1, kept := σ.tornK key s (σ.ups.take (x + 1)) }) (by
            have h := tornK_step σ key s (unhide HUN) hxU
            rw [← unhide HI] at h
            rw [← h]))
          clear T1 T2 T3 o1 o2 o3 hll hcast kc kf a0 a1 pc kcA a0A a1A pcA
          go_wp2
          go_roundw
          case rel => exact ⟨x + 1, by omega, by go_num, HB3⟩
          case measure => simp [intOf]; omega
        · obtain rfl : m = x := by omega
          obtain ⟨v', S', O', F'⟩ := unhide HB
          have a0 := O'.keepc (unhide HA0) (unhide HNF _ hsz3)
          have a1 := O'.keepc (unhide HA1) (unhide HNF _ hsz3)
          have z0 := O'.keepc (unhide y0) (unhide HNF _ (by show w.heap.size ≤ w.heap.size + 2; omega))
          have z1 := O'.keepc (unhide y1) (unhide HNF _ (by show w.heap.size ≤ w.heap.size + 2; omega))
          have z2 := O'.keepc (unhide y2) (unhide HNF _ (by show w.heap.size ≤ w.heap.size + 2; omega))
          have z3 := O'.keepc (unhide y3) (unhide HNF _ (by show w.heap.size ≤ w.heap.size + 2; omega))
          have zf : ∀ j, wr.frozen? ⟨w.heap.size + 2, j, none⟩ = false := fun j => (World.frozen?_of_block (a := ⟨w.heap.size + 2, j, none⟩) (O'.block _ hrb4 (unhide HNF _ (by show w.heap.size ≤ w.heap.size + 2; omega)))).trans (unhide yf j)
          clear S' O' F'
          go_wp2
          refine bodyPost_ret (v := .tuple #[.agg #[.string ⟨#[]⟩, .int .i64 ((σ.wr : Int) + 1), .int .i64 0, .int .i64 0], .int .i64 0]) (by simp [results, Tryz.results63, go_sem, World.cell?_setCell_same', z0, z1, z2, z3]) rfl ?_
          have HB4 := hide (Became.tell (unhide HO4) (unhide HB) rfl rfl (b := w.heap.size + 2) (by omega) hrb4 (unhide HNF _ (by omega)) (.string ⟨#[]⟩) (.int .i64 ((σ.wr : Int) + 1)) (.int .i64 0) (.int .i64 0))
          rw [unhide HP]
          exact ⟨rfl, unhide HB4⟩
end Go.Proofs.YtpenkbhljkmliaaGreatDoor
