import Derived.Test.YtpenkbhljkmliaaGreatDoorSto10
/-
  The contracts of (*Store).isNode, isKey, rot.
-/
set_option linter.unusedVariables false
set_option linter.unusedSimpArgs false
namespace Go.Proofs.YtpenkbhljkmliaaGreatDoor
open Go.RowKit Go.BigFrame

set_option maxRecDepth 100000 in
theorem isKey_ok (key : Int) (w : World) : Calls Tryz.prog 61 #[.int .i64 key] w fun e w' => e = .returned (.bool (decide (Sto.isKey key))) ∧ w' = w := by
  by_cases h0 : 0 ≤ key
  · by_cases h3 : key < 3
    · rw [decide_eq_true (show Sto.isKey key from ⟨h0, h3⟩)]
      go_enter Tryz.func61, Tryz.ntmps61
      go_wp2
      go_ret
      exact ⟨rfl, rfl⟩
    · rw [decide_eq_false (show ¬ Sto.isKey key from fun h => h3 h.2)]
      have hd : decide (key < 3) = false := decide_eq_false h3
      go_enter Tryz.func61, Tryz.ntmps61
      go_wp2
      go_ret
      exact ⟨rfl, rfl⟩
  · rw [decide_eq_false (show ¬ Sto.isKey key from fun h => h0 h.1)]
    have hd : decide (0 ≤ key) = false := decide_eq_false h0
    go_enter Tryz.func61, Tryz.ntmps61
    go_wp2
    go_ret
    exact ⟨rfl, rfl⟩

set_option maxRecDepth 100000 in
theorem isNode_ok {b0 p g : Nat} {w : World} {v : Nat → Nat → Value} {σ : Sto} (S : St b0 w p g v σ) (n : Int) : Calls Tryz.prog 92 #[.pointer (some ⟨p, 0, none⟩), .int .i64 n] w fun e w' => e = .returned (.bool (decide (σ.isNode n))) ∧ w' = w := by
  have n4 := S.cnodes
  clear S
  by_cases h0 : 0 ≤ n
  · by_cases h3 : n < (σ.N : Int)
    · rw [decide_eq_true (show σ.isNode n from ⟨h0, h3⟩)]
      go_enter Tryz.func92, Tryz.ntmps92
      go_wp2
      go_ret
      exact ⟨rfl, rfl⟩
    · rw [decide_eq_false (show ¬ σ.isNode n from fun h => h3 h.2)]
      have hd : decide (n < (σ.N : Int)) = false := decide_eq_false h3
      go_enter Tryz.func92, Tryz.ntmps92
      go_wp2
      go_ret
      exact ⟨rfl, rfl⟩
  · rw [decide_eq_false (show ¬ σ.isNode n from fun h => h0 h.1)]
    have hd : decide (0 ≤ n) = false := decide_eq_false h0
    go_enter Tryz.func92, Tryz.ntmps92
    go_wp2
    go_ret
    exact ⟨rfl, rfl⟩

section
variable {b0 p g : Nat} {w w' : World} {v : Nat → Nat → Value} {σ : Sto}
theorem St.congr (S : St b0 w p g v σ) {f : Nat → Nat → List (Nat × ByteArray)} (h : ∀ i k, i < σ.N → k < 3 → σ.kept i k = f i k) : St b0 w p g v { σ with kept := f } :=
  { S with
    own := fun i k hi hk => by
      show World.ownsRow _ _ _ _ _ (f i k).length (kps (f i k))
      rw [← h i k hi hk]; exact S.own i k hi hk }
/-- A piece of a kept slice is written in place. -/
theorem St.patch (S : St b0 w p g v σ) {i k gk c m : Nat} (hi : i < σ.N) (hk : k < 3) (hv : v i k = .slice (some ⟨gk, 0, none⟩) (σ.kept i k).length c) (hm : m < (σ.kept i k).length) (s : ByteArray) :
    St b0 (w.setCell ⟨gk, m * 3 + 2, none⟩ (.string s)) p g v { σ with kept := setK σ.kept i k ((σ.kept i k).set m ((kd (σ.kept i k) m).1, s)) } ∧ Only (foot p g v σ.N) w (w.setCell ⟨gk, m * 3 + 2, none⟩ (.string s)) := by
  have hob : (v i k).ownBlock = some gk := by rw [hv]; rfl
  have hp : p ≠ gk := fun e => S.offp i k hi hk (by rw [hob, e])
  have hg : g ≠ gk := fun e => S.offg i k hi hk (by rw [hob, e])
  have cp : ∀ j, (w.setCell ⟨gk, m * 3 + 2, none⟩ (.string s)).cell? ⟨p, j, none⟩ = w.cell? ⟨p, j, none⟩ := fun j => set_cell_b _ hp
  have cg : ∀ j, (w.setCell ⟨gk, m * 3 + 2, none⟩ (.string s)).cell? ⟨g, j, none⟩ = w.cell? ⟨g, j, none⟩ := fun j => set_cell_b _ hg
  refine ⟨{ S with
    p_hi := by simpa using S.p_hi
    g_hi := by simpa using S.g_hi
    cN := (cp 0).trans S.cN
    cK := (cp 1).trans S.cK
    cW := (cp 2).trans S.cW
    cR := (cp 3).trans S.cR
    cnodes := (cp 4).trans S.cnodes
    cwr := (cp 5).trans S.cwr
    fwr := by rw [World.frozen?_setCell]; exact S.fwr
    fg := fun j => by rw [World.frozen?_setCell]; exact S.fg j
    cdown := fun a ha => (cg _).trans (S.cdown a ha)
    ckept := fun a b ha hb => (cg _).trans (S.ckept a b ha hb)
    own := fun a b ha hb => by
      show World.ownsRow _ _ _ _ _ (setK σ.kept i k _ a b).length (kps (setK σ.kept i k _ a b))
      by_cases e : a = i ∧ b = k
      · obtain ⟨rfl, rfl⟩ := e
        rw [setK_same, List.length_set, ← kps_set _ _ _ hm]
        have h := S.own a b ha hb
        rw [hv] at h ⊢
        exact own_setS h (by omega) _
      · rw [setK_ne _ _ e]
        refine own_kept (S.own a b ha hb) fun x hx => set_heap _ fun e2 => ?_
        exact S.apart a b i k ha hb hi hk e x hx (by rw [hob, e2]) }, ?_⟩
  exact (Only.refl (F := foot p g v σ.N)).set (.inl (.inr (.inr ⟨i, k, hi, hk, hob⟩))) _
where
  own_setS {w : World} {base e : TypeId} {sz n c g : Nat} {xs : List Value} (h : w.ownsRow base e sz (.slice (some ⟨g, 0, none⟩) n c) n xs) {j : Nat} (hj : j < n * sz) (u : Value) :
      (w.setCell ⟨g, j, none⟩ u).ownsRow base e sz (.slice (some ⟨g, 0, none⟩) n c) n (xs.set j u) := by
    obtain ⟨h1, h2⟩ := h
    refine ⟨by rw [List.length_set, h1], ?_⟩
    rcases h2 with ⟨h2, -⟩ | ⟨g', c', cur, h3, h4, h5, h6, h7, h8, h9⟩
    · cases h2
    · injection h3 with h3 _ h3'
      simp only [Option.some.injEq, Addr.mk.injEq, and_true] at h3
      subst h3; subst h3'
      refine .inr ⟨g, c, cur.setIfInBounds j u, rfl, h4, ?_, h6, h7, by simpa using h8, ?_⟩
      · simp [World.setCell, Array.getElem?_modify, h5]
      · rw [Array.toList_setIfInBounds, ← h9, List.take_set]
end
def rotE (σ : Sto) (n key : Nat) : Int := if σ.kept n key = [] then 4 else 0
def rotT (σ : Sto) (n key : Nat) : Sto := if σ.kept n key = [] then σ else { σ with kept := σ.rotK n key }

set_option maxRecDepth 100000 in
set_option maxHeartbeats 4000000 in
theorem rot_ok {b0 p g : Nat} {w : World} {v : Nat → Nat → Value} {σ : Sto} (S : St b0 w p g v σ) (Fi : Fine σ) (kind : Int) (key n : Nat) (hn : n < σ.N) (hkey : key < 3) (s : ByteArray) :
    Calls Tryz.prog 93 #[.pointer (some ⟨p, 0, none⟩), deedV kind (key : Int) (n : Int) s] w fun e w' => e = .returned (.int .i64 (rotE σ n key)) ∧ Became b0 w p g v σ w' (rotT σ n key) := by
  have HS := hide S
  have HF := hide Fi
  obtain ⟨W0, hW0⟩ : ∃ W0, W0 = w.alloc (.cells #[.int .i64 kind, .int .i64 (key : Int), .int .i64 (n : Int), .string s] 70) := ⟨_, rfl⟩
  have HW0 := hide hW0
  have E0 : Ext w W0 := by rw [hW0]; exact (Ext.refl w).alloc _
  have d1 : W0.cell? ⟨w.heap.size, 1, none⟩ = some (.int .i64 (key : Int)) := by rw [hW0, new_cell]; rfl
  have d2 : W0.cell? ⟨w.heap.size, 2, none⟩ = some (.int .i64 (n : Int)) := by rw [hW0, new_cell]; rfl
  have S0 := S.keep E0
  have n4 : W0.cell? ⟨p, 4, none⟩ = some (.slice (some ⟨g, 0, none⟩) σ.N σ.N) := S0.cnodes
  have kc := S0.ckept n key hn hkey
  have HE0 := hide E0
  have HS0 := hide S0
  have hnI : (n : Int) < (σ.N : Int) := by omega
  have hkI : (key : Int) < 3 := by omega
  clear S Fi hW0 E0 S0
  unfold deedV
  by_cases hL : σ.kept n key = []
  · have HP := hide (show rotE σ n key = 4 ∧ rotT σ n key = σ from by unfold rotE rotT; rw [if_pos hL, if_pos hL]; exact ⟨rfl, rfl⟩)
    obtain ⟨A, c, hv, -, -, -, hA, -⟩ := (unhide HS0).row hn hkey
    rw [hv, hL] at kc
    have kc : W0.cell? ⟨g, n * 4 + 1 + key, none⟩ = some (.slice A 0 c) := kc
    clear hv hA hL
    go_enter Tryz.func93, Tryz.ntmps93
    go_wp2
    rw [← unhide HW0]
    go_quiet (fail)
    go_wp2
    go_ret
    rw [(unhide HP).1, (unhide HP).2]
    exact ⟨rfl, Became.of_ext (unhide HS) ((unhide HE0).drewN _)⟩
  · have HP := hide (show rotE σ n key = 0 ∧ rotT σ n key = { σ with kept := σ.rotK n key } from by unfold rotE rotT; rw [if_neg hL, if_neg hL]; exact ⟨rfl, rfl⟩)
    have hpos : 0 < (σ.kept n key).length := List.length_pos_iff.2 hL
    obtain ⟨gk, ck, hv, -, hgk, -, -, hcell⟩ := row_open ((unhide HS0).own n key hn hkey) hpos
    rw [hv] at kc
    have HV := hide hv
    have HGK := hide hgk
    obtain ⟨L, hLL⟩ : ∃ L, L = (σ.kept n key).length := ⟨_, rfl⟩
    rw [← hLL] at kc hpos
    have hlen := (unhide HF).len n key hn hkey
    rw [← hLL] at hlen
    obtain ⟨m, hm⟩ : ∃ m, L = m + 1 := ⟨L - 1, by omega⟩
    have hmL : m < (σ.kept n key).length := by omega
    have hmI : (m : Int) < (L : Int) := by omega
    have hsub : IntKind.i64.wrap ((L : Int) - 1) = (m : Int) := by rw [show (L : Int) - 1 = (m : Int) by omega]; exact IntWalk.i64_in _ (by omega)
    have hg := kps_get (σ.kept n key) m hmL
    have ce := (hcell (m * 3 + 2) (by omega)).trans hg.2.2
    have hz := (unhide HF).sz n key _ hn hkey (kd_mem hmL)
    have HML := hide (show m = (σ.kept n key).length - 1 by omega)
    have HLL := hide hLL
    have HMU := hide hmL
    have hLB : ((L : Int) == 0) = false := by rw [beq_eq_false_iff_ne]; omega
    obtain ⟨z, hzz⟩ : ∃ z, z = (kd (σ.kept n key) m).2 := ⟨_, rfl⟩
    rw [← hzz] at ce hz
    have HZZ := hide hzz
    clear hv hgk hcell hg hLL hmL hm hlen hpos hL hzz
    go_enter Tryz.func93, Tryz.ntmps93
    go_wp2
    rw [← unhide HW0]
    go_quiet (fail)
    obtain ⟨wd, hwd⟩ : ∃ wd, wd = W0.drewN nq := ⟨_, rfl⟩
    rw [← hwd]
    have HED := hide (show Ext W0 wd by rw [hwd]; exact (Ext.refl W0).drewN nq)
    have ce := (unhide HED).keep ce
    obtain ⟨cc, W3, hconv, E3, hcz, B3⟩ := bytes_of wd z
    have hb := B3.nat (k := 0) (by simp; omega)
    have hba : ((List.range z.size).map fun k => sby z k).getD 0 0 = sby z 0 := by
      rw [Wm.getD_map_ 0 (by simp; omega), Wm.getD_range (by omega)]
    rw [hba] at hb
    obtain ⟨hb1, hb2⟩ := hb
    have hxo := u8_xor_nat (sby z 0) 1 (sby_lt z 0) (by omega)
    have HB4 := hide (B3.set (k := 0) (by rw [nats_length]; simp; omega) (.int .u8 ((sby z 0 ^^^ 1 : Nat) : Int)))
    rw [nats_set] at HB4
    rw [show ((1 : Nat) : Int) = 1 from rfl] at hxo
    have hrl : (((List.range z.size).map fun k => sby z k).set 0 (sby z 0 ^^^ 1)).length = z.size := by simp
    have hstr := (unhide HB4).str (P := Tryz.prog) Tryz.underlying106 Tryz.underlying5 Tryz.underlying9 cc
    rw [hrl, show strN (((List.range z.size).map fun k => sby z k).set 0 (sby z 0 ^^^ 1)) = Sto.rotP z from rfl] at hstr
    have hgs : gk < wd.heap.size := Nat.lt_of_lt_of_le (cell_lt ce) (Nat.le_refl _)
    have hne : gk ≠ wd.heap.size := by omega
    have kp : (W3.setCell ⟨wd.heap.size, 0, none⟩ (.int .u8 ((sby z 0 ^^^ 1 : Nat) : Int))).cell? ⟨gk, m * 3 + 2, none⟩ = some (.string z) := (set_cell_b _ hne).trans (E3.keep ce)
    have hz5I : (0 : Int) < (z.size : Int) := by omega
    have HE3 := hide (show Ext w W3 from ((unhide HE0).trans (unhide HED)).trans E3)
    have hwd2 : w.heap.size ≤ wd.heap.size := ((unhide HE0).trans (unhide HED)).size
    have HE4 := hide ((unhide HE3).setCell (p := ⟨wd.heap.size, 0, none⟩) hwd2 (.int .u8 ((sby z 0 ^^^ 1 : Nat) : Int)))
    have kf : (W3.setCell ⟨wd.heap.size, 0, none⟩ (.int .u8 ((sby z 0 ^^^ 1 : Nat) : Int))).frozen? ⟨gk, m * 3 + 2, none⟩ = false := by
      have S5 := (unhide HS).keep (unhide HE4)
      have ho := S5.own n key hn hkey
      rw [unhide HV] at ho
      exact (Made.of_own ho).frozen _
    have HS5 := hide ((unhide HS).keep (unhide HE4))
    generalize sby z 0 ^^^ 1 = v1 at *
    generalize sby z 0 = v0 at *
    clear hba hrl B3 HB4 hwd hcz
    go_wp2
    go_ret
    obtain ⟨T1, T2⟩ := (unhide HS5).patch hn hkey (unhide HV) (unhide HMU) (Sto.rotP z)
    have hrot : ({ σ with kept := setK σ.kept n key ((σ.kept n key).set m ((kd (σ.kept n key) m).1, Sto.rotP z)) } : Sto) = { σ with kept := σ.rotK n key } := by
      have : setK σ.kept n key ((σ.kept n key).set m ((kd (σ.kept n key) m).1, Sto.rotP z)) = σ.rotK n key := by
        funext a b
        unfold setK Sto.rotK
        by_cases e : a = n ∧ b = key
        · obtain ⟨rfl, rfl⟩ := e
          rw [if_pos ⟨rfl, rfl⟩, if_pos ⟨rfl, rfl⟩]
          unfold Sto.rotL
          rw [← unhide HML, unhide HZZ]; rfl
        · rw [if_neg e, if_neg e]
      rw [this]
    rw [(unhide HP).1, (unhide HP).2]
    exact ⟨rfl, Became.pre (unhide HE4) (Became.to ⟨v, T1, T2, fun _ h => .inl h⟩ hrot)⟩
end Go.Proofs.YtpenkbhljkmliaaGreatDoor

/-
  The contract of (*Store).at.
-/
set_option linter.unusedVariables false
set_option linter.unusedSimpArgs false
namespace Go.Proofs.YtpenkbhljkmliaaGreatDoor
open Go.RowKit Go.BigFrame

set_option maxRecDepth 100000 in
set_option maxHeartbeats 4000000 in
theorem at_ok {b0 p g : Nat} {w : World} {v : Nat → Nat → Value} {σ : Sto} (S : St b0 w p g v σ) (Fi : Fine σ) (kind key n : Int) (s : ByteArray) (hk : kind = 4 ∨ kind = 5 ∨ kind = 6 ∨ (kind = 7 ∧ Sto.isKey key)) :
    Calls Tryz.prog 65 #[.pointer (some ⟨p, 0, none⟩), deedV kind key n s] w fun e w' => e = .returned (.int .i64 (σ.atS kind key n).1.err) ∧ Became b0 w p g v σ w' (σ.atS kind key n).2 := by
  have HS := hide S
  have HF := hide Fi
  obtain ⟨W0, hW0⟩ : ∃ W0, W0 = w.alloc (.cells #[.int .i64 kind, .int .i64 key, .int .i64 n, .string s] 70) := ⟨_, rfl⟩
  have HW0 := hide hW0
  have E0 : Ext w W0 := by rw [hW0]; exact (Ext.refl w).alloc _
  have d0 : W0.cell? ⟨w.heap.size, 0, none⟩ = some (.int .i64 kind) := by rw [hW0, new_cell]; rfl
  have d1 : W0.cell? ⟨w.heap.size, 1, none⟩ = some (.int .i64 key) := by rw [hW0, new_cell]; rfl
  have d2 : W0.cell? ⟨w.heap.size, 2, none⟩ = some (.int .i64 n) := by rw [hW0, new_cell]; rfl
  have d3 : W0.cell? ⟨w.heap.size, 3, none⟩ = some (.string s) := by rw [hW0, new_cell]; rfl
  have S0 := S.keep E0
  have n4 : W0.cell? ⟨p, 4, none⟩ = some (.slice (some ⟨g, 0, none⟩) σ.N σ.N) := S0.cnodes
  have HE0 := hide E0
  have HS0 := hide S0
  have CI := hide (isNode_ok S0 n)
  clear S Fi hW0 E0 S0
  unfold deedV
  by_cases hn : σ.isNode n
  · rw [decide_eq_true hn] at CI
    obtain ⟨m, rfl⟩ : ∃ m : Nat, n = (m : Int) := ⟨n.toNat, by unfold Sto.isNode at hn; omega⟩
    have hmN : m < σ.N := by unfold Sto.isNode at hn; omega
    have hmI : (m : Int) < (σ.N : Int) := by omega
    have HN := hide hn
    have cd := (unhide HS0).cdown m hmN
    have c0 := (unhide HS0).ckept m 0 hmN (by omega)
    have c1 := (unhide HS0).ckept m 1 hmN (by omega)
    have c2 := (unhide HS0).ckept m 2 hmN (by omega)
    have fg := (unhide HS0).fg
    clear hn
    rcases hk with rfl | rfl | rfl | ⟨rfl, hkey⟩
    · have HP := hide (show σ.atS 4 key (m : Int) = (Ans.no 0, { σ with down := fun i => if i = m then true else σ.down i }) from by
        unfold Sto.atS; rw [if_neg (by simpa using unhide HN), if_pos rfl, Int.toNat_natCast])
      clear c0 c1 c2 d3
      go_enter Tryz.func65, Tryz.ntmps65
      go_wp2_with fail
      rw [← unhide HW0]
      refine (unhide CI).mono ?_
      rintro e w1 ⟨rfl, rfl⟩
      go_wp2
      go_quiet (fail)
      have HED := hide ((unhide HE0).drewN nq)
      have HSD := hide ((unhide HS).keep (unhide HED))
      have cd : (w1.drewN nq).cell? ⟨g, m * 4, none⟩ = some (.bool (σ.down m)) := cd
      have fg : ∀ j, (w1.drewN nq).frozen? ⟨g, j, none⟩ = false := fg
      have d0 : (w1.drewN nq).cell? ⟨w.heap.size, 0, none⟩ = some (.int .i64 4) := d0
      generalize (w1.drewN nq) = wd at *
      go_wp2
      go_ret
      obtain ⟨T1, T2⟩ := (unhide HSD).flag hmN true
      rw [unhide HP]
      exact ⟨rfl, Became.pre (unhide HED) ⟨v, T1, T2, fun _ h => .inl h⟩⟩
    · have HP := hide (show σ.atS 5 key (m : Int) = (Ans.no 0, { σ with down := fun i => if i = m then false else σ.down i }) from by
        unfold Sto.atS; rw [if_neg (by simpa using unhide HN), if_neg (by decide), if_pos rfl, Int.toNat_natCast])
      clear c0 c1 c2 d3
      go_enter Tryz.func65, Tryz.ntmps65
      go_wp2_with fail
      rw [← unhide HW0]
      refine (unhide CI).mono ?_
      rintro e w1 ⟨rfl, rfl⟩
      go_wp2
      go_quiet (fail)
      have HED := hide ((unhide HE0).drewN nq)
      have HSD := hide ((unhide HS).keep (unhide HED))
      have cd : (w1.drewN nq).cell? ⟨g, m * 4, none⟩ = some (.bool (σ.down m)) := cd
      have fg : ∀ j, (w1.drewN nq).frozen? ⟨g, j, none⟩ = false := fg
      have d0 : (w1.drewN nq).cell? ⟨w.heap.size, 0, none⟩ = some (.int .i64 5) := d0
      generalize (w1.drewN nq) = wd at *
      go_wp2
      go_ret
      obtain ⟨T1, T2⟩ := (unhide HSD).flag hmN false
      rw [unhide HP]
      exact ⟨rfl, Became.pre (unhide HED) ⟨v, T1, T2, fun _ h => .inl h⟩⟩
    · have HP := hide (show σ.atS 6 key (m : Int) = (Ans.no 0, { σ with kept := fun i k => if i = m then [] else σ.kept i k }) from by
        unfold Sto.atS; rw [if_neg (by simpa using unhide HN), if_neg (by decide), if_neg (by decide), if_pos rfl, Int.toNat_natCast])
      clear cd d3
      go_enter Tryz.func65, Tryz.ntmps65
      go_wp2_with fail
      rw [← unhide HW0]
      refine (unhide CI).mono ?_
      rintro e w1 ⟨rfl, rfl⟩
      go_wp2
      go_quiet (fail)
      have HED := hide ((unhide HE0).drewN nq)
      have HSD := hide ((unhide HS).keep (unhide HED))
      have c0 : (w1.drewN nq).cell? ⟨g, m * 4 + 1 + 0, none⟩ = some (v m 0) := c0
      have c1 : (w1.drewN nq).cell? ⟨g, m * 4 + 1 + 1, none⟩ = some (v m 1) := c1
      have c2 : (w1.drewN nq).cell? ⟨g, m * 4 + 1 + 2, none⟩ = some (v m 2) := c2
      have fg : ∀ j, (w1.drewN nq).frozen? ⟨g, j, none⟩ = false := fg
      have d0 : (w1.drewN nq).cell? ⟨w.heap.size, 0, none⟩ = some (.int .i64 6) := d0
      generalize (w1.drewN nq) = wd at *
      go_wp2
      go_ret
      obtain ⟨T1, T2, T3⟩ := (unhide HSD).turn hmN (k := 0) (by omega) (w' := wd) (u := .slice none 0 0) (l := []) (World.ownsRow_nil _ _ _ _) (World.grownBy.refl wd _) (.inl rfl)
      obtain ⟨U1, U2, U3⟩ := T1.turn hmN (k := 1) (by omega) (u := .slice none 0 0) (l := []) (World.ownsRow_nil _ _ _ _) (World.grownBy.refl _ _) (.inl rfl)
      obtain ⟨V1, V2, V3⟩ := U1.turn hmN (k := 2) (by omega) (u := .slice none 0 0) (l := []) (World.ownsRow_nil _ _ _ _) (World.grownBy.refl _ _) (.inl rfl)
      have V4 := V1.congr (f := fun i k => if i = m then [] else σ.kept i k) (fun i k hi hk3 => by
        show setK (setK (setK σ.kept m 0 []) m 1 []) m 2 [] i k = _
        unfold setK
        by_cases e : i = m
        · subst e
          rw [if_pos rfl]
          rcases (show k = 0 ∨ k = 1 ∨ k = 2 by omega) with rfl | rfl | rfl <;> simp
        · rw [if_neg e, if_neg (fun h => e h.1), if_neg (fun h => e h.1), if_neg (fun h => e h.1)])
      rw [unhide HP]
      exact ⟨rfl, Became.pre (unhide HED) (Became.trans_ T2 T3 (Became.trans_ U2 U3 ⟨_, V4, V2, V3⟩ rfl) rfl)⟩
    · obtain ⟨k, rfl⟩ : ∃ k : Nat, key = (k : Int) := ⟨key.toNat, by unfold Sto.isKey at hkey; omega⟩
      have hk3 : k < 3 := by unfold Sto.isKey at hkey; omega
      have HP := hide (show (σ.atS 7 (k : Int) (m : Int)).1.err = rotE σ m k ∧ (σ.atS 7 (k : Int) (m : Int)).2 = rotT σ m k from by
        unfold Sto.atS rotE rotT
        rw [if_neg (by simpa using unhide HN), if_neg (by decide), if_neg (by decide), if_neg (by decide), Int.toNat_natCast, Int.toNat_natCast]
        by_cases e : σ.kept m k = []
        · rw [if_pos e, if_pos e, if_pos e]; exact ⟨rfl, rfl⟩
        · rw [if_neg e, if_neg e, if_neg e]; exact ⟨rfl, rfl⟩)
      have CR := hide (show ∀ W, Ext w W → Calls Tryz.prog 93 #[.pointer (some ⟨p, 0, none⟩), .agg #[.int .i64 7, .int .i64 (k : Int), .int .i64 (m : Int), .string s]] W fun e w' => e = .returned (.int .i64 (rotE σ m k)) ∧ Became b0 W p g v σ w' (rotT σ m k) from fun W E => rot_ok ((unhide HS).keep E) (unhide HF) 7 k m hmN hk3 s)
      clear cd c0 c1 c2 hkey fg
      go_enter Tryz.func65, Tryz.ntmps65
      go_wp2_with fail
      rw [← unhide HW0]
      refine (unhide CI).mono ?_
      rintro e w1 ⟨rfl, rfl⟩
      go_wp2
      go_quiet (fail)
      have HED := hide ((unhide HE0).drewN nq)
      have d0 : (w1.drewN nq).cell? ⟨w.heap.size, 0, none⟩ = some (.int .i64 7) := d0
      have d1 : (w1.drewN nq).cell? ⟨w.heap.size, 1, none⟩ = some (.int .i64 (k : Int)) := d1
      have d2 : (w1.drewN nq).cell? ⟨w.heap.size, 2, none⟩ = some (.int .i64 (m : Int)) := d2
      have d3 : (w1.drewN nq).cell? ⟨w.heap.size, 3, none⟩ = some (.string s) := d3
      generalize (w1.drewN nq) = wd at *
      go_wp2_with fail
      refine (unhide CR _ (unhide HED)).mono ?_
      rintro e w3 ⟨rfl, B3⟩
      have HB3 := hide (Became.pre (unhide HED) B3)
      clear B3
      go_wp2
      go_ret
      rw [(unhide HP).1, (unhide HP).2]
      exact ⟨rfl, unhide HB3⟩
  · have HP := hide (show σ.atS kind key n = (Ans.no 1, σ) from by unfold Sto.atS; rw [if_pos hn])
    rw [decide_eq_false hn] at CI
    clear hn n4 d0 d1 d3
    go_enter Tryz.func65, Tryz.ntmps65
    go_wp2_with fail
    rw [← unhide HW0]
    refine (unhide CI).mono ?_
    rintro e w1 ⟨rfl, rfl⟩
    go_wp2
    go_ret
    rw [unhide HP]
    exact ⟨rfl, Became.of_ext (unhide HS) (unhide HE0)⟩
end Go.Proofs.YtpenkbhljkmliaaGreatDoor
