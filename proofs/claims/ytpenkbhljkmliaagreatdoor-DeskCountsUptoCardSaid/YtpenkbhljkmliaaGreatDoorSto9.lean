import Derived.Test.YtpenkbhljkmliaaGreatDoorSto7
/-
  What a deed makes of the store in memory; the contract of (*Store).put.
-/
set_option linter.unusedVariables false
set_option linter.unusedSimpArgs false
namespace Go.Proofs.YtpenkbhljkmliaaGreatDoor
open Go.RowKit Go.BigFrame

/-- What is told, as a value. -/
def tellV (a : Ans) : Value := .tuple #[.agg #[.string a.text, .int .i64 (a.at_ : Int), .int .i64 0, .int .i64 (a.many : Int)], .int .i64 a.err]
def deedV (kind key n : Int) (s : ByteArray) : Value := .agg #[.int .i64 kind, .int .i64 key, .int .i64 n, .string s]
/-- From w on, where the store stood as (v, σ), it has become σ'. -/
def Became (b0 : Nat) (w : World) (p g : Nat) (v : Nat → Nat → Value) (σ : Sto) (w' : World) (σ' : Sto) : Prop :=
  ∃ v', St b0 w' p g v' σ' ∧ Only (foot p g v σ.N) w w' ∧ (∀ x, foot p g v' σ.N x → foot p g v σ.N x ∨ w.heap.size ≤ x)
section
variable {b0 p g : Nat} {w w' w'' : World} {v v' : Nat → Nat → Value} {σ σ' σ'' τ : Sto}
theorem Became.of_ext (S : St b0 w p g v σ) (E : Ext w w') : Became b0 w p g v σ w' σ := ⟨v, S.keep E, Only.of_ext E, fun _ h => .inl h⟩
theorem Became.same (S : St b0 w p g v σ) : Became b0 w p g v σ w σ := Became.of_ext S (Ext.refl w)
theorem Became.ext (B : Became b0 w p g v σ w' σ') (E : Ext w' w'') : Became b0 w p g v σ w'' σ' := by
  obtain ⟨v', S, O, F⟩ := B
  exact ⟨v', S.keep E, O.trans (G := fun _ => False) (Only.of_ext E) (fun _ h => h.elim), F⟩
theorem Became.to (B : Became b0 w p g v σ w' σ') (h : σ' = τ) : Became b0 w p g v σ w' τ := h ▸ B
/-- One step more. -/
theorem Became.trans_ (O : Only (foot p g v σ.N) w w') (F : ∀ x, foot p g v' σ.N x → foot p g v σ.N x ∨ w.heap.size ≤ x) (B : Became b0 w' p g v' σ' w'' σ'') (hN : σ'.N = σ.N) : Became b0 w p g v σ w'' σ'' := by
  obtain ⟨v2, S2, O2, F2⟩ := B
  rw [hN] at O2 F2
  refine ⟨v2, S2, O.trans O2 F, fun x hx => ?_⟩
  rcases F2 x hx with h | h
  · exact F x h
  · exact .inr (Nat.le_trans O.size h)
/-- First new blocks. -/
theorem Became.pre (E : Ext w w') (B : Became b0 w' p g v σ w'' σ'') : Became b0 w p g v σ w'' σ'' :=
  Became.trans_ (Only.of_ext E) (fun _ h => .inl h) B rfl
theorem Only.keepc {F : Nat → Prop} (h : Only F w w') {a : Addr} {u : Value} (hc : w.cell? a = some u) (hn : ¬ F a.block) : w'.cell? a = some u :=
  (World.cell?_of_block (h.block a.block (World.block_lt_of_cell? w a (by rw [hc])) hn)).trans hc
theorem grown_ext (E : Ext w w') (r : Option Nat) : w.grownBy w' r := ⟨E.os, E.tape, E.output, E.size, fun k hk _ => Below.block E k hk⟩
end

theorem new_cell (W : World) (cs : Array Value) (T : TypeId) (j : Nat) : (W.alloc (.cells cs T)).cell? ⟨W.heap.size, j, none⟩ = cs[j]? := by simp
theorem Ext.set4 {w w1 : World} (E : Ext w w1) {b : Nat} (hb : w.heap.size ≤ b) (u0 u1 u2 u3 : Value) : Ext w ((((w1.setCell ⟨b, 0, none⟩ u0).setCell ⟨b, 1, none⟩ u1).setCell ⟨b, 2, none⟩ u2).setCell ⟨b, 3, none⟩ u3) :=
  (((E.setCell hb u0).setCell hb u1).setCell hb u2).setCell hb u3

/-- What is told is written into a block of the call's own. -/
theorem Became.tell {b0 p g b : Nat} {w w3 wr : World} {v : Nat → Nat → Value} {σ σ1 σ2 : Sto} (O : Only (foot p g v σ.N) w w3) (B : Became b0 w3 p g v σ1 wr σ2) (hN : σ1.N = σ.N) (hN2 : σ2.N = σ.N) (hb : w.heap.size ≤ b) (hb3 : b < w3.heap.size) (hn : ¬ foot p g v σ.N b) (u0 u1 u2 u3 : Value) :
    Became b0 w p g v σ ((((wr.setCell ⟨b, 0, none⟩ u0).setCell ⟨b, 1, none⟩ u1).setCell ⟨b, 2, none⟩ u2).setCell ⟨b, 3, none⟩ u3) σ2 := by
  obtain ⟨v', S, O', F'⟩ := B
  rw [hN] at O' F'
  have E : Only (· = b) wr ((((wr.setCell ⟨b, 0, none⟩ u0).setCell ⟨b, 1, none⟩ u1).setCell ⟨b, 2, none⟩ u2).setCell ⟨b, 3, none⟩ u3) :=
    ((((Only.refl (F := (· = b))).set (.inl rfl) u0).set (.inl rfl) u1).set (.inl rfl) u2).set (.inl rfl) u3
  refine ⟨v', S.other E fun x hx h => ?_, (O.trans O' fun _ h => .inl h).trans E fun x h => .inr (by rw [h]; exact hb), fun x hx => ?_⟩
  · rw [hN2] at hx
    rcases F' x hx with h1 | h1
    · exact hn (h ▸ h1)
    · omega
  · rcases F' x hx with h1 | h1
    · exact .inl h1
    · exact .inr (Nat.le_trans O.size h1)

/-- What is needed of a store, for its functions to run as they should. -/
structure Fine (σ : Sto) : Prop where
  k1 : 1 ≤ σ.K
  kn : σ.K ≤ σ.N
  n10 : σ.N ≤ 10
  few : σ.wr ≤ 1000000
  len : ∀ i k, i < σ.N → k < 3 → (σ.kept i k).length ≤ 1000000
  sz : ∀ i k e, i < σ.N → k < 3 → e ∈ σ.kept i k → 5 ≤ e.2.size ∧ e.2.size ≤ 65

theorem putK_none (σ : Sto) (key : Nat) (s : ByteArray) : σ.putK key s [] = σ.kept := by
  funext i k
  simp [Sto.putK]
theorem putK_step (σ : Sto) (key : Nat) (s : ByteArray) (l : List Nat) {x : Nat} (h : x < l.length) : setK (σ.putK key s (l.take x)) (l.getD x 0) key [(σ.wr + 1, σ.pce s (l.getD x 0))] = σ.putK key s (l.take (x + 1)) := by
  funext a b
  rw [take_snoc l 0 h]
  unfold setK Sto.putK
  by_cases c : a = l.getD x 0 ∧ b = key
  · obtain ⟨rfl, rfl⟩ := c
    rw [if_pos ⟨rfl, rfl⟩, if_pos ⟨rfl, by simp⟩]
  · rw [if_neg c]
    by_cases d : b = key ∧ a ∈ l.take x
    · rw [if_pos d, if_pos ⟨d.1, List.mem_append_left _ d.2⟩]
    · rw [if_neg d, if_neg (fun e => by
        rcases List.mem_append.1 e.2 with h1 | h1
        · exact d ⟨e.1, h1⟩
        · exact c ⟨List.mem_singleton.1 h1, e.1⟩)]

set_option maxRecDepth 100000 in
set_option maxHeartbeats 4000000 in
theorem put_ok {b0 p g : Nat} {w : World} {v : Nat → Nat → Value} {σ : Sto} (S : St b0 w p g v σ) (Fi : Fine σ) (kind n : Int) (key : Nat) (hkey : key < 3) (s : ByteArray) (hss : (s.size : Int) ≤ 9223372036854775807) :
    Calls Tryz.prog 62 #[.pointer (some ⟨p, 0, none⟩), deedV kind (key : Int) n s] w fun e w' => e = .returned (tellV (σ.putS key s).1) ∧ Became b0 w p g v σ w' (σ.putS key s).2 := by
  have HS := hide S
  have HF := hide Fi
  have HFH := hide (show ∀ x, foot p g v σ.N x → x < w.heap.size from fun x hx => S.foot_hi hx)
  have CS := hide (fun W (E : Ext w W) => split_ok (S.keep E) Fi.k1 Fi.kn Fi.n10 Fi.few s hss)
  clear S Fi
  unfold deedV
  go_enter Tryz.func62, Tryz.ntmps62
  go_wp2_with fail
  refine (unhide CS _ (((Ext.refl w).alloc _).alloc _)).mono ?_
  rintro e w1 ⟨ho, E1⟩
  have HE1 := hide ((((Ext.refl w).alloc (.cells #[.int .i64 kind, .int .i64 (key : Int), .int .i64 n, .string s] 70)).alloc (.cells #[.string ByteArray.empty, .int .i64 0, .int .i64 0, .int .i64 0] 67)).trans E1)
  have r0 : w1.cell? ⟨w.heap.size + 1, 0, none⟩ = some (.string ⟨#[]⟩) := (E1.cell (p := ⟨w.heap.size + 1, 0, none⟩) (by simp)).trans (by simp)
  have r1 : w1.cell? ⟨w.heap.size + 1, 1, none⟩ = some (.int .i64 0) := (E1.cell (p := ⟨w.heap.size + 1, 1, none⟩) (by simp)).trans (by simp)
  have r2 : w1.cell? ⟨w.heap.size + 1, 2, none⟩ = some (.int .i64 0) := (E1.cell (p := ⟨w.heap.size + 1, 2, none⟩) (by simp)).trans (by simp)
  have r3 : w1.cell? ⟨w.heap.size + 1, 3, none⟩ = some (.int .i64 0) := (E1.cell (p := ⟨w.heap.size + 1, 3, none⟩) (by simp)).trans (by simp)
  have kd1 : w1.cell? ⟨w.heap.size, 1, none⟩ = some (.int .i64 (key : Int)) := (E1.cell (p := ⟨w.heap.size, 1, none⟩) (by simp; omega)).trans (by simp)
  have rf : ∀ j, w1.frozen? ⟨w.heap.size + 1, j, none⟩ = false := fun j => (E1.frozen (p := ⟨w.heap.size + 1, j, none⟩) (by simp)).trans (by simp)
  rcases ho with ⟨hne, rfl⟩ | ⟨hz, gq, rfl, M1⟩
  · have HP := hide (show σ.putS key s = (Ans.no (σ.splitE s), σ) from by unfold Sto.putS; rw [if_pos hne])
    have hB : (σ.splitE s != 0) = true := by rw [bne_iff_ne]; exact hne
    generalize σ.splitE s = r at *
    clear hne E1
    go_wp2
    refine bodyPost_ret (v := .tuple #[.agg #[.string ⟨#[]⟩, .int .i64 0, .int .i64 0, .int .i64 0], .int .i64 r]) (by simp [results, Tryz.results62, go_sem, World.cell?_setCell_same', r0, r1, r2, r3]) rfl ?_
    rw [unhide HP]
    exact ⟨rfl, Became.of_ext (unhide HS) ((unhide HE1).set4 (by omega) _ _ _ _)⟩
  · have HP := hide (show σ.putS key s = (⟨ByteArray.empty, σ.wr + 1, 0, 0⟩, { σ with wr := σ.wr + 1, kept := σ.putK key s σ.ups }) from by unfold Sto.putS; rw [if_neg (by simpa using hz)])
    have S1 := (unhide HS).keep (unhide HE1)
    have c5 := S1.cwr
    have f5 := S1.fwr
    have hfew := (unhide HF).few
    have hsum : IntKind.i64.wrap ((σ.wr : Int) + 1) = (σ.wr : Int) + 1 := IntWalk.i64_in _ (by omega)
    have hcast : ((σ.wr + 1 : Nat) : Int) = (σ.wr : Int) + 1 := by omega
    have SW := S1.write (σ.wr + 1)
    rw [hcast] at SW
    obtain ⟨S2, O2⟩ := SW
    have CU := hide (show ∀ W, Ext (w1.setCell ⟨p, 5, none⟩ (.int .i64 ((σ.wr : Int) + 1))) W → Calls Tryz.prog 85 #[.pointer (some ⟨p, 0, none⟩)] W fun e w' => (∃ u, e = .returned u ∧ w'.ownsRow W.heap.size 3 1 u σ.ups.length (nats .i64 σ.ups)) ∧ Ext W w' from fun W E => up_ok (σ := { σ with wr := σ.wr + 1 }) (S2.keep E) (unhide HF).n10)
    have HS2 := hide S2
    have HO2 := hide ((Only.of_ext (F := foot p g v σ.N) (unhide HE1)).trans O2 fun _ h => .inl h)
    have HM1 := hide M1
    clear S1 S2 O2 M1 hcast hz
    go_wp2_with fail
    refine (unhide CU _ ((Ext.refl _).alloc _)).mono ?_
    rintro e w3 ⟨⟨u, rfl, own⟩, E3⟩
    have HS3 := hide ((unhide HS2).keep (((Ext.refl _).alloc (.cells #[.int .i64 ((σ.wr : Int) + 1), .int .i64 0] 65)).trans E3))
    have HNF := hide (show ∀ b, w.heap.size ≤ b → ¬ foot p g v σ.N b from fun b hb h => by have := unhide HFH b h; omega)
    have E13 := ((Ext.refl (w1.setCell ⟨p, 5, none⟩ (.int .i64 ((σ.wr : Int) + 1)))).alloc (.cells #[.int .i64 ((σ.wr : Int) + 1), .int .i64 0] 65)).trans E3
    have O13 : Only (foot p g v σ.N) w1 w3 := ((Only.refl (F := foot p g v σ.N)).set (.inl (.inl rfl)) _).trans (G := fun _ => False) (Only.of_ext E13) fun _ h => h.elim
    have hsz1 := (unhide HE1).size
    have q0 := O13.keepc r0 (unhide HNF _ (by show w.heap.size ≤ w.heap.size + 1; omega))
    have q1 := O13.keepc r1 (unhide HNF _ (by show w.heap.size ≤ w.heap.size + 1; omega))
    have q2 := O13.keepc r2 (unhide HNF _ (by show w.heap.size ≤ w.heap.size + 1; omega))
    have q3 := O13.keepc r3 (unhide HNF _ (by show w.heap.size ≤ w.heap.size + 1; omega))
    have frz : ∀ b, w.heap.size ≤ b → b < w1.heap.size → ∀ j, w3.frozen? ⟨b, j, none⟩ = w1.frozen? ⟨b, j, none⟩ := fun b hb hb1 j => World.frozen?_of_block (a := ⟨b, j, none⟩) (O13.block b hb1 (unhide HNF b hb))
    have hrb1 : w.heap.size + 1 < w1.heap.size := World.block_lt_of_cell? w1 ⟨w.heap.size + 1, 0, none⟩ (by rw [r0])
    have qf : ∀ j, w3.frozen? ⟨w.heap.size + 1, j, none⟩ = false := fun j => (frz _ (by omega) hrb1 j).trans (rf j)
    have HD := hide (O13.keepc kd1 (unhide HNF _ (by show w.heap.size ≤ w.heap.size; omega)))
    have hA : ∀ j u, j < 2 → (#[.int .i64 ((σ.wr : Int) + 1), .int .i64 0] : Array Value)[j]? = some u → w3.cell? ⟨w1.heap.size, j, none⟩ = some u := fun j u hj hu => by
      have e : w1.heap.size = (w1.setCell ⟨p, 5, none⟩ (.int .i64 ((σ.wr : Int) + 1))).heap.size := by simp
      rw [e]
      refine (E3.cell (p := ⟨_, j, none⟩) (by simp)).trans ?_
      rw [← hu]
      exact new_cell _ _ _ _
    have HA0 := hide (hA 0 _ (by omega) rfl)
    have HA1 := hide (hA 1 _ (by omega) rfl)
    clear hA
    have HPC := hide (show ∀ i, i < σ.N → w3.cell? ⟨gq, i, none⟩ = some (.string (σ.pce s i)) from fun i hi => by
      have hb := ((unhide HM1).lt gq rfl).1
      have hc := (unhide HM1).cell hi
      rw [List.getD_eq_getElem?_getD, strs_get _ _ (by rw [splitL_length]; exact hi)] at hc
      exact O13.keepc hc (unhide HNF gq (by simp at hb; omega)))
    have HGQ := hide (show w.heap.size ≤ gq from by have := ((unhide HM1).lt gq rfl).1; simp at this; omega)
    obtain ⟨A, cA, rfl, RU, hcA, hcm, hbA⟩ := row_of_own own
    have HRU := hide RU
    have HBA := hide (show ∀ b o, A = some ⟨b, o, none⟩ → w.heap.size ≤ b from fun b o h => by have := (hbA b o h).1; simp at this; omega)
    have hb1 : w.heap.size ≤ w1.heap.size := hsz1
    clear r0 r1 r2 r3 rf c5 f5 hsum RU own hbA kd1 frz HM1 HO2 E13 E3 CU CS
    have HO13 := hide ((Only.of_ext (F := foot p g v σ.N) (unhide HE1)).trans O13 fun _ h => .inl h)
    clear O13 HS2 hcA hcm
    have HB0 := hide (Became.same (unhide HS3))
    rw [show σ.kept = σ.putK key s (σ.ups.take 0) from (putK_none σ key s).symm] at HB0
    obtain ⟨U, hU⟩ : ∃ U, U = σ.ups.length := ⟨_, rfl⟩
    rw [← hU] at HRU ⊢
    have HU := hide hU
    have hU10 : U ≤ 10 := by rw [hU]; exact Nat.le_trans σ.ups_le (unhide HF).n10
    clear hU
    go_wp2
    go_loopw [37] (fun i wr => ∃ x : Nat, x ≤ U ∧ i = .int .i64 x ∧ Hid (Became b0 w3 p g v { σ with wr := σ.wr + 1 } wr { σ with wr := σ.wr + 1, kept := σ.putK key s (σ.ups.take x) })) (fun i _ => U - (intOf i).toNat)
    case atStart => exact ⟨0, Nat.zero_le _, rfl, HB0⟩
    case round =>
      obtain ⟨x, hx, rfl, HB⟩ := hrel
      by_cases hlt : x < U
      · obtain ⟨i, hi⟩ : ∃ i, i = σ.ups.getD x 0 := ⟨_, rfl⟩
        have hxU : x < σ.ups.length := by rw [← unhide HU]; exact hlt
        have hiN : i < σ.N := by rw [hi]; exact Sto.ups_lt (getD_mem σ.ups 0 hxU)
        obtain ⟨bu, ou, rfl, hbu, hcu⟩ := (unhide HRU).nat hlt
        rw [← hi] at hcu
        obtain ⟨v', S', O', F'⟩ := unhide HB
        have n4 := S'.cnodes
        have k1 := O'.keepc (unhide HD) (unhide HNF _ (Nat.le_refl _))
        have a0 := O'.keepc (unhide HA0) (unhide HNF _ hb1)
        have a1 := O'.keepc (unhide HA1) (unhide HNF _ hb1)
        have pc := O'.keepc (unhide HPC i hiN) (unhide HNF _ (unhide HGQ))
        have uc := O'.keepc hcu (unhide HNF _ (unhide HBA _ _ rfl))
        have kc := S'.ckept i key hiN hkey
        have kf := S'.fg (i * 4 + 1 + key)
        have kcA := fun o => ((Ext.refl wr).alloc o).keep kc
        have n4A := fun o => ((Ext.refl wr).alloc o).keep n4
        have k1A := fun o => ((Ext.refl wr).alloc o).keep k1
        have a0A := fun o => ((Ext.refl wr).alloc o).keep a0
        have a1A := fun o => ((Ext.refl wr).alloc o).keep a1
        have pcA := fun o => ((Ext.refl wr).alloc o).keep pc
        have kfA : ∀ o, (wr.alloc o).frozen? ⟨g, i * 4 + 1 + key, none⟩ = false := fun o => (((Ext.refl wr).alloc o).frozen (cell_lt kc)).trans kf
        have HI := hide hi
        have HS' := hide S'
        have HO' := hide O'
        have HF' := hide F'
        have hiI : (i : Int) < (σ.N : Int) := by omega
        have hkI : (key : Int) < 3 := by omega
        have hxI : (x : Int) < (U : Int) := by omega
        clear S' O' F' hcu hi
        have n4' : wr.cell? ⟨p, 4, none⟩ = some (.slice (some ⟨g, 0, none⟩) σ.N σ.N) := n4
        clear n4
        go_wp2
        apply share
        · intro H
          go_region_law (fail)
          all_goals exact H
        have hcast : ((σ.wr + 1 : Nat) : Int) = (σ.wr : Int) + 1 := by omega
        have HL := World.ownsRow_lit (base := b0) (e := 135) (size := 3) wr #[.int .i64 ((σ.wr : Int) + 1), .int .i64 0, .string (σ.pce s i)] 1 (by have h1 := (unhide HS').g_lo; have h2 := (unhide HS').g_hi; omega) (by unfold maxLen; omega) rfl
        rw [show (#[.int .i64 ((σ.wr : Int) + 1), .int .i64 0, .string (σ.pce s i)] : Array Value).toList = kps [(σ.wr + 1, σ.pce s i)] from by simp [kps, hcast]] at HL
        obtain ⟨T1, T2, T3⟩ := (unhide HS').turn hiN hkey (l := [(σ.wr + 1, σ.pce s i)]) HL (grown_ext ((Ext.refl wr).alloc _) _) (.inr (.inr ⟨wr.heap.size, rfl, Nat.le_refl _⟩))
        have HB3 := hide (((Became.trans_ (unhide HO') (unhide HF') ⟨_, T1, T2, T3⟩ rfl).ext (Ext.refl _).drew).to (τ := { σ with wr := σ.wr + 1, kept := σ.putK key s (σ.ups.take (x + 1)) }) (by
          have h := putK_step σ key s σ.ups hxU
          rw [← unhide HI] at h
          rw [← h]))
        clear T1 T2 T3 HL k1 a0 a1 pc uc kc kf n4A k1A a0A a1A pcA kcA kfA
        go_wp2
        go_roundw
        case rel => exact ⟨x + 1, by omega, by go_num, HB3⟩
        case measure => simp [intOf]; omega
      · obtain rfl : U = x := by omega
        rw [unhide HU, List.take_length] at HB
        obtain ⟨v', S', O', F'⟩ := unhide HB
        have a0 := O'.keepc (unhide HA0) (unhide HNF _ hb1)
        have a1 := O'.keepc (unhide HA1) (unhide HNF _ hb1)
        have z0 := O'.keepc q0 (unhide HNF _ (by show w.heap.size ≤ w.heap.size + 1; omega))
        have z1 := O'.keepc q1 (unhide HNF _ (by show w.heap.size ≤ w.heap.size + 1; omega))
        have z2 := O'.keepc q2 (unhide HNF _ (by show w.heap.size ≤ w.heap.size + 1; omega))
        have z3 := O'.keepc q3 (unhide HNF _ (by show w.heap.size ≤ w.heap.size + 1; omega))
        have zf : ∀ j, wr.frozen? ⟨w.heap.size + 1, j, none⟩ = false := fun j => (World.frozen?_of_block (a := ⟨w.heap.size + 1, j, none⟩) (O'.block _ (show w.heap.size + 1 < w3.heap.size from cell_lt q0) (unhide HNF _ (by show w.heap.size ≤ w.heap.size + 1; omega)))).trans (qf j)
        have hb3 : w.heap.size + 1 < w3.heap.size := cell_lt q0
        clear S' O' F' q0 q1 q2 q3 qf
        go_wp2
        refine bodyPost_ret (v := .tuple #[.agg #[.string ⟨#[]⟩, .int .i64 ((σ.wr : Int) + 1), .int .i64 0, .int .i64 0], .int .i64 0]) (by simp [results, Tryz.results62, go_sem, World.cell?_setCell_same', z0, z1, z2, z3]) rfl ?_
        have HB4 := hide (Became.tell (unhide HO13) (unhide HB) rfl rfl (b := w.heap.size + 1) (by omega) hb3 (unhide HNF _ (by omega)) (.string ⟨#[]⟩) (.int .i64 ((σ.wr : Int) + 1)) (.int .i64 0) (.int .i64 0))
        rw [unhide HP]
        exact ⟨rfl, unhide HB4⟩
end Go.Proofs.YtpenkbhljkmliaaGreatDoor

/-
  The contract of (*Store).torn.
-/
set_option linter.unusedVariables false
set_option linter.unusedSimpArgs false
namespace Go.Proofs.YtpenkbhljkmliaaGreatDoor
open Go.RowKit Go.BigFrame

/-- append to a row of the call's own, as one step of a region that draws its order; where the new row lies. -/
theorem step_app_at {P : Program} {ops : Array Oper} {o : Oper} {a : Act} {w : World} {K : Act → World → Prop} {Q : Exit → Act → World → Prop} {E : Prop}
    (hg : o.guard = none) (s x : Operand) (t : TypeId) (ho : o.op = .call { callee := .builtin .append, args := #[s, x], argTypes := #[t, t] })
    {e : TypeId} {z : Value} {size bytes : Nat} (hI : EInfo P t e z size bytes) {base : Nat} {v : Value} {n : Nat} {xs : List Value} (hs : a.eval s = v) (hown : w.ownsRow base e size v n xs)
    {ad : Addr} {m c : Nat} (news : List Value) (hx : a.eval x = .slice (some ad) m c) (hl : news.length = m * size) (hcell : ∀ k u, news[k]? = some u → w.cell? (ad.add k) = some u) (h1 : news.all (fun u => u.oneCell') = true)
    (hb : (n + m) * bytes ≤ 140737488355328 ∧ n + m ≤ 9223372036854775807) (hbase : base ≤ w.heap.size)
    (h : ∀ v' w', w'.ownsRow base e size v' (n + m) (xs ++ news) → w.grownBy w' v.ownBlock → (v'.ownBlock = v.ownBlock ∨ v'.ownBlock = some w.heap.size) → K (a.put o.dst v') w') :
    if Region.wanted o (yielded ops a.tmps) = true then Oper.wp P o a w K Q else E := by
  have hw : Region.wanted o (yielded ops a.tmps) = true := by simp [Region.wanted, hg]
  rw [if_pos hw]
  obtain ⟨ht, ⟨j, hj, hz, hsz, hby⟩, hzs, hsz0⟩ := hI
  obtain ⟨v', w', hr, h2, h3, h4, h5⟩ := run_append_own_at (P := P) w base t o.type e j z size bytes ht hj hz hsz hby hzs hsz0 v n xs hown ad m c news hl hcell (fun u hu => List.all_eq_true.1 h1 u hu) (by unfold maxLen; omega) (by omega) hbase
  unfold Oper.wp execOp
  simp only [ho, resolve, invoke, builtin, Sem.run_bind, Sem.run_pure, Result.andThen_ok, List.map_toArray, List.map_cons, List.map_nil, hs, hx, hr]
  exact h v' w' h2 h3 h5
/-- What several ways come to, each with a value and a world of its own, is shown once. -/
theorem share2 {A G : Value → World → Prop} {q : Prop} (h1 : (∀ v' w', A v' w' → G v' w') → q) (h2 : ∀ v' w', A v' w' → G v' w') : q := h1 h2
theorem share3 {A G : Nat → Nat → World → Prop} {q : Prop} (h1 : (∀ b c w', A b c w' → G b c w') → q) (h2 : ∀ b c w', A b c w' → G b c w') : q := h1 h2
theorem fresh_cells (w : World) (cs : Array Value) (T : TypeId) (k : Nat) (u : Value) (h : cs.toList[k]? = some u) : (w.alloc (.cells cs T)).cell? ((⟨w.heap.size, 0, none⟩ : Addr).add k) = some u := by
  have : (⟨w.heap.size, 0, none⟩ : Addr).add k = ⟨w.heap.size, k, none⟩ := by
    unfold Addr.add
    split
    · rename_i h0; simp [h0]
    · simp
  rw [this, new_cell, ← Array.getElem?_toList]
  exact h
theorem grown_alloc {w w' : World} {o : Obj} {r : Option Nat} (h : (w.alloc o).grownBy w' r) : w.grownBy w' r := by
  have hs := h.size
  have e : (w.alloc o).heap.size = w.heap.size + 1 := by simp
  exact ⟨h.os, h.tape, h.output, by omega, fun k hk hne => by rw [h.block k (by omega) hne, Below.heap_alloc _ _ _ (by omega)]⟩

theorem keptR : EInfo Tryz.prog 136 135 (.agg #[.int .i64 0, .int .i64 0, .string ⟨#[]⟩]) 3 32 := EInfo.mk_ Tryz.underlying136 (by kernel_rfl) rfl (by omega)

set_option maxRecDepth 100000 in
set_option maxHeartbeats 2000000 in
theorem torn1_ok {b0 p g : Nat} {w : World} {v : Nat → Nat → Value} {σ : Sto} (S : St b0 w p g v σ) (i key bs bd : Nat) (hi : i < σ.N) (hkey : key < 3) (cs : w.cell? ⟨bs, 0, none⟩ = some (.pointer (some ⟨p, 0, none⟩))) (cd : w.cell? ⟨bd, 1, none⟩ = some (.int .i64 (key : Int))) :
    Calls Tryz.prog 87 #[.int .i64 (i : Int), .pointer (some ⟨bs, 0, none⟩), .pointer (some ⟨bd, 0, none⟩)] w fun e w' => e = .returned (.bool (decide (8 ≤ (σ.kept i key).length))) ∧ Ext w w' := by
  have n4 := S.cnodes
  have kc := S.ckept i key hi hkey
  obtain ⟨A, c, hv, R, h1, h2, h3, -⟩ := S.row hi hkey
  rw [hv] at kc
  have hiI : (i : Int) < (σ.N : Int) := by omega
  have hkI : (key : Int) < 3 := by omega
  clear S hv R h3
  generalize (σ.kept i key).length = L at *
  by_cases h8 : 8 ≤ L
  · have h8I : (8 : Int) ≤ (L : Int) := by omega
    rw [decide_eq_true h8]
    clear h8
    go_enter Tryz.func87, Tryz.ntmps87
    go_wp2
    go_quiet (fail)
    go_wp2
    go_ret
    exact ⟨rfl, (Ext.refl _).drewN _⟩
  · have h8I : decide ((8 : Int) ≤ (L : Int)) = false := decide_eq_false (by omega)
    have h8J : ¬ (8 : Int) ≤ (L : Int) := by omega
    rw [decide_eq_false h8]
    clear h8
    go_enter Tryz.func87, Tryz.ntmps87
    go_wp2
    go_quiet (fail)
    go_wp2
    go_ret
    exact ⟨rfl, (Ext.refl _).drewN _⟩


set_option maxRecDepth 100000 in
set_option maxHeartbeats 1000000 in
theorem full_index (A : Option Addr) (n c : Nat) (l : List Nat) (q1 q2 : Addr) (w : World) (R : Row w A n 1 (nats .i64 l)) (p : Nat → Bool)
    (hp : ∀ k, k < n → ∀ W, Ext w W → Calls Tryz.prog 87 (#[.int .i64 ((l.getD k 0 : Nat) : Int)] ++ #[.pointer (some q1), .pointer (some q2)]) W fun e w' => e = .returned (.bool (p (l.getD k 0))) ∧ Ext W w') (hm : n ≤ 4611686018427387904) :
    Calls Tryz.prog 104 #[.slice A n c, .func (.func 87) #[] #[.pointer (some q1), .pointer (some q2)]] w fun e w' => (∃ r : Int, e = .returned (.int .i64 r) ∧ decide (0 ≤ r) = l.any p) ∧ Ext w w' := by
  have HP := hide hp
  have HL := hide R.numN
  have HR := hide R
  clear hp R
  go_enter Tryz.func104, Tryz.ntmps104
  go_wp2
  go_loopw [8] (fun i wr => ∃ k : Nat, k ≤ n ∧ i = .int .i64 k ∧ Hid (∀ j, j < k → p (l.getD j 0) = false) ∧ Ext w wr) (fun i _ => n - (intOf i).toNat)
  case atStart => exact ⟨0, by omega, rfl, hide (fun j h => absurd h (by omega)), Ext.refl _⟩
  case round =>
    obtain ⟨k, hk, rfl, hz, hext⟩ := hrel
    by_cases hlt : k < n
    · obtain ⟨b, o, rfl, hb, c1⟩ := ((unhide HR).keep hext).nat hlt
      have hpk := unhide HP k hlt
      have hmem := getD_mem l 0 (k := k) (by rw [unhide HL]; exact hlt)
      have hzk := hide (fun (h : p (l.getD k 0) = false) j (hj : j < k + 1) => (show p (l.getD j 0) = false from by
        by_cases h' : j < k
        · exact unhide hz j h'
        · obtain rfl : j = k := by omega
          exact h))
      have hfin := hide (fun (h : p (l.getD k 0) = true) => (List.any_eq_true.2 ⟨_, hmem, h⟩ : l.any p = true))
      clear hmem
      generalize hq : p (l.getD k 0) = q at *
      clear hq
      generalize l.getD k 0 = x at *
      have HQ := hide hpk
      clear hpk
      cases q with
      | false =>
        have hz2 := hide (unhide hzk rfl)
        clear hzk hfin
        go_wp2_with (go_at_call 87; refine (unhide HQ _ hext).mono ?_; rintro e w' ⟨rfl, E1⟩)
        go_roundw
        case rel => exact ⟨k + 1, by omega, by go_num, hz2, hext.trans E1⟩
        case measure => simp [intOf]; omega
      | true =>
        have hf2 := hide (unhide hfin rfl)
        clear hzk hfin
        go_wp2_with (go_at_call 87; refine (unhide HQ _ hext).mono ?_; rintro e w' ⟨rfl, E1⟩)
        go_ret
        exact ⟨⟨_, rfl, by rw [unhide hf2]; simp⟩, hext.trans E1⟩
    · have hfin := hide (show l.any p = false by
        rw [List.any_eq_false]
        intro x hx
        obtain ⟨j, hj, rfl⟩ := List.getElem_of_mem hx
        have := unhide hz j (by have := unhide HL; omega)
        rw [List.getD_eq_getElem?_getD, List.getElem?_eq_getElem hj] at this
        simpa using this)
      go_wp2
      go_ret
      exact ⟨⟨_, rfl, by rw [unhide hfin]; simp⟩, hext⟩

theorem full_contains (A : Option Addr) (n c : Nat) (l : List Nat) (q1 q2 : Addr) (w : World) (R : Row w A n 1 (nats .i64 l)) (p : Nat → Bool)
    (hp : ∀ k, k < n → ∀ W, Ext w W → Calls Tryz.prog 87 (#[.int .i64 ((l.getD k 0 : Nat) : Int)] ++ #[.pointer (some q1), .pointer (some q2)]) W fun e w' => e = .returned (.bool (p (l.getD k 0))) ∧ Ext W w') (hm : n ≤ 4611686018427387904) :
    Calls Tryz.prog 86 #[.slice A n c, .func (.func 87) #[] #[.pointer (some q1), .pointer (some q2)]] w fun e w' => e = .returned (.bool (l.any p)) ∧ Ext w w' := by
  have H := hide (full_index A n c l q1 q2 w R p hp hm)
  clear R hp
  generalize l.any p = v at *
  go_enter Tryz.func86, Tryz.ntmps86
  go_wp2_with fail
  refine (unhide H).mono ?_
  rintro e w' ⟨⟨n, rfl, hn⟩, E1⟩
  go_wp2
  go_ret
  exact ⟨rfl, E1⟩

end Go.Proofs.YtpenkbhljkmliaaGreatDoor
