/-
  The desk in memory; the contract of (*desk).do.
-/
import Derived.Test.YtpenkbhljkmliaaGreatDoorDesk4
import Derived.Test.YtpenkbhljkmliaaGreatDoorSto18
import Derived.Test.YtpenkbhljkmliaaGreatDoorTri
import Derived.Test.YtpenkbhljkmliaaGreatDoorTri
import Derived.Deep.RegionWith
import Derived.Deep.RegionHeld3
import Derived.Deep.Cut
import Derived.Deep.CutRange
set_option linter.unusedVariables false
set_option linter.unusedSimpArgs false
namespace Go.Proofs.YtpenkbhljkmliaaGreatDoor
open Go.RowKit Go.BigFrame

/-- A desk: its cell at q points to a store that reads as σ; the blocks X are none of theirs. -/
def Dk (w : World) (q : Nat) (σ : Sto) (X : Nat → Prop) : Prop :=
  ∃ b0 p g v, St b0 w p g v σ ∧ w.cell? ⟨q, 0, none⟩ = some (.pointer (some ⟨p, 0, none⟩)) ∧ w.frozen? ⟨q, 0, none⟩ = false ∧ ¬ X q ∧ ∀ x, X x ∨ x = q → ¬ foot p g v σ.N x ∧ x < w.heap.size
/-- The blocks X are as they were. -/
def Kx (X : Nat → Prop) (w w' : World) : Prop := Only (fun x => ¬ X x) w w'
section
variable {w w' w'' : World} {q : Nat} {σ σ' : Sto} {X Y : Nat → Prop} {F : Nat → Prop}
theorem Kx.refl : Kx X w w := Only.refl
theorem Kx.of_ext (E : Ext w w') : Kx X w w' := Only.of_ext E
theorem Kx.trans (h : Kx X w w') (k : Kx X w' w'') : Kx X w w'' := Only.trans h k fun _ h => .inl h
theorem Kx.ext {a : World} (h : Kx X w w') (E : Ext a w) (hX : ∀ x, x < a.heap.size → X x) : Ext a w' := Only.ext h E fun x hx => Nat.le_of_not_lt fun hl => hx (hX x hl)
theorem Kx.block (h : Kx X w w') {k : Nat} (hk : k < w.heap.size) (hX : X k) : w'.heap[k]? = w.heap[k]? := Only.block h k hk fun hn => hn hX
theorem Kx.less (h : Kx X w w') (hY : ∀ x, Y x → X x) : Kx Y w w' := Only.mono h fun x hx => .inl fun hy => hx (hY x hy)
theorem Dk.turn (h : Dk w q σ X) (O : Only F w w') (hF : ∀ x, F x → X x) : Dk w' q σ fun x => X x ∨ (w.heap.size ≤ x ∧ x < w'.heap.size) := by
  obtain ⟨b0, p, g, v, S, cq, fq, nX, hx⟩ := h
  have hq := (hx q (.inr rfl)).2
  have hbq : w'.heap[q]? = w.heap[q]? := O.block q hq fun hf => nX (hF q hf)
  refine ⟨b0, p, g, v, S.other O fun x hf hf' => (hx x (.inl (hF x hf'))).1 hf, (World.cell?_of_block (a := ⟨q, 0, none⟩) hbq).trans cq, (World.frozen?_of_block (a := ⟨q, 0, none⟩) hbq).trans fq, ?_, ?_⟩
  · rintro (h | h)
    · exact nX h
    · omega
  · rintro x ((h | h) | h)
    · exact ⟨(hx x (.inl h)).1, Nat.lt_of_lt_of_le (hx x (.inl h)).2 O.size⟩
    · exact ⟨fun hf => by have := S.foot_hi hf; omega, h.2⟩
    · exact ⟨(hx x (.inr h)).1, Nat.lt_of_lt_of_le (hx x (.inr h)).2 O.size⟩
theorem Dk.less (h : Dk w q σ X) (hY : ∀ x, Y x → X x) : Dk w q σ Y := by
  obtain ⟨b0, p, g, v, S, cq, fq, nX, hx⟩ := h
  exact ⟨b0, p, g, v, S, cq, fq, fun h => nX (hY q h), fun x h => hx x (h.imp_left (hY x))⟩
theorem Dk.grow (h : Dk w q σ X) (E : Ext w w') : Dk w' q σ fun x => X x ∨ (w.heap.size ≤ x ∧ x < w'.heap.size) := h.turn (F := fun _ => False) (Only.of_ext E) fun _ h => h.elim
theorem Dk.keep (h : Dk w q σ X) (E : Ext w w') : Dk w' q σ X := (h.grow E).less fun _ h => .inl h
theorem Dk.lt (h : Dk w q σ X) : q < w.heap.size := by
  obtain ⟨b0, p, g, v, S, cq, fq, nX, hx⟩ := h
  exact (hx q (.inr rfl)).2
theorem Dk.of_became {b0 p g : Nat} {v : Nat → Nat → Value} (cq : w.cell? ⟨q, 0, none⟩ = some (.pointer (some ⟨p, 0, none⟩))) (fq : w.frozen? ⟨q, 0, none⟩ = false) (nX : ¬ X q)
    (hx : ∀ x, X x ∨ x = q → ¬ foot p g v σ.N x ∧ x < w.heap.size) (B : Became b0 w p g v σ w' σ') (hN : σ'.N = σ.N) : Dk w' q σ' X ∧ Kx X w w' := by
  obtain ⟨v', S', O, F'⟩ := B
  have hq := hx q (.inr rfl)
  have hbq : w'.heap[q]? = w.heap[q]? := O.block q hq.2 hq.1
  refine ⟨⟨b0, p, g, v', S', (World.cell?_of_block (a := ⟨q, 0, none⟩) hbq).trans cq, (World.frozen?_of_block (a := ⟨q, 0, none⟩) hbq).trans fq, nX, fun x h => ⟨fun hf => ?_, Nat.lt_of_lt_of_le (hx x h).2 O.size⟩⟩, O.mono fun x hf => .inl fun h => (hx x (.inl h)).1 hf⟩
  rw [hN] at hf
  rcases F' x hf with h1 | h1
  · exact (hx x h).1 h1
  · have := (hx x h).2; omega
end

theorem set4_cells {w : World} {b : Nat} {z0 z1 z2 z3 : Value} (h0 : w.cell? ⟨b, 0, none⟩ = some z0) (h1 : w.cell? ⟨b, 1, none⟩ = some z1) (h2 : w.cell? ⟨b, 2, none⟩ = some z2) (h3 : w.cell? ⟨b, 3, none⟩ = some z3) (u0 u1 u2 u3 : Value) :
    ((((w.setCell ⟨b, 0, none⟩ u0).setCell ⟨b, 1, none⟩ u1).setCell ⟨b, 2, none⟩ u2).setCell ⟨b, 3, none⟩ u3).cell? ⟨b, 0, none⟩ = some u0 ∧ ((((w.setCell ⟨b, 0, none⟩ u0).setCell ⟨b, 1, none⟩ u1).setCell ⟨b, 2, none⟩ u2).setCell ⟨b, 3, none⟩ u3).cell? ⟨b, 1, none⟩ = some u1 ∧
    ((((w.setCell ⟨b, 0, none⟩ u0).setCell ⟨b, 1, none⟩ u1).setCell ⟨b, 2, none⟩ u2).setCell ⟨b, 3, none⟩ u3).cell? ⟨b, 2, none⟩ = some u2 ∧ ((((w.setCell ⟨b, 0, none⟩ u0).setCell ⟨b, 1, none⟩ u1).setCell ⟨b, 2, none⟩ u2).setCell ⟨b, 3, none⟩ u3).cell? ⟨b, 3, none⟩ = some u3 := by
  simp [go_sem, World.cell?_setCell_same', h0, h1, h2, h3]
def toldD (a : Ans) : Value := .agg #[.string a.text, .int .i64 (a.at_ : Int), .int .i64 0, .int .i64 (a.many : Int)]
/-- What a deed at the desk comes to: what is told, or the panic of its error. -/
def DoPost (a : Ans) (e : Ending) : Prop := if a.err = 0 then e = .returned (toldD a) else e = thrown a.err

set_option maxRecDepth 100000 in
set_option maxHeartbeats 4000000 in
theorem do_desk {w : World} {q : Nat} {σ : Sto} {X : Nat → Prop} (D : Dk w q σ X) (Fi : Fine σ) (kind key n : Int) (s : ByteArray) (hss : (s.size : Int) ≤ 9223372036854775807) :
    Calls Tryz.prog 29 #[.pointer (some ⟨q, 0, none⟩), .agg #[.int .i64 kind, .int .i64 key, .int .i64 n, .string s]] w fun e w' =>
      DoPost (σ.doS kind key n s).1 e ∧ Dk w' q (σ.doS kind key n s).2 X ∧ Kx X w w' := by
  obtain ⟨b0, p, g, v, S, cq, fq, nX, hx⟩ := D
  have hN := Sto.doS_N σ kind key n s
  have HB := hide (fun (w' : World) (B : Became b0 w p g v σ w' (σ.doS kind key n s).2) => Dk.of_became cq fq nX hx B hN)
  have CD := hide (fun (W : World) (S : St b0 W p g v σ) => do_ok S Fi kind key n s hss)
  unfold deedV tellV at CD
  have HNF := hide (show ∀ b, w.heap.size ≤ b → ¬ foot p g v σ.N b from fun b hb h => by have := S.foot_hi h; omega)
  obtain ⟨W0, hW0⟩ : ∃ W0, W0 = (w.alloc (.cells #[.int .i64 kind, .int .i64 key, .int .i64 n, .string s] 70)).alloc (.cells #[.string ⟨#[]⟩, .int .i64 0, .int .i64 0, .int .i64 0] 67) := ⟨_, rfl⟩
  have HW0 := hide hW0
  have hn2 := new2 w #[.int .i64 kind, .int .i64 key, .int .i64 n, .string s] #[.string ⟨#[]⟩, .int .i64 0, .int .i64 0, .int .i64 0] 70 67
  rw [← hW0] at hn2
  have E0 : Ext w W0 := by rw [hW0]; exact ((Ext.refl w).alloc _).alloc _
  have d0 : W0.cell? ⟨w.heap.size, 0, none⟩ = some (.int .i64 kind) := (hn2 0).1
  have d1 : W0.cell? ⟨w.heap.size, 1, none⟩ = some (.int .i64 key) := (hn2 1).1
  have d2 : W0.cell? ⟨w.heap.size, 2, none⟩ = some (.int .i64 n) := (hn2 2).1
  have d3 : W0.cell? ⟨w.heap.size, 3, none⟩ = some (.string s) := (hn2 3).1
  have r0 : W0.cell? ⟨w.heap.size + 1, 0, none⟩ = some (.string ⟨#[]⟩) := (hn2 0).2.1
  have r1 : W0.cell? ⟨w.heap.size + 1, 1, none⟩ = some (.int .i64 0) := (hn2 1).2.1
  have r2 : W0.cell? ⟨w.heap.size + 1, 2, none⟩ = some (.int .i64 0) := (hn2 2).2.1
  have r3 : W0.cell? ⟨w.heap.size + 1, 3, none⟩ = some (.int .i64 0) := (hn2 3).2.1
  have rf : ∀ j, W0.frozen? ⟨w.heap.size + 1, j, none⟩ = false := fun j => (hn2 j).2.2
  have hrb : w.heap.size + 1 < W0.heap.size := cell_lt r0
  have cq0 := E0.keep cq
  have HE0 := hide E0
  have HS0 := hide (S.keep E0)
  have HR := hide (And.intro r0 (And.intro r1 (And.intro r2 (And.intro r3 rf))))
  have HT := hide (show ∀ (wr : World) (σ' : Sto), Became b0 W0 p g v σ wr σ' → σ'.N = σ.N → (wr.cell? ⟨w.heap.size + 1, 0, none⟩ = some (.string ⟨#[]⟩) ∧ wr.cell? ⟨w.heap.size + 1, 1, none⟩ = some (.int .i64 0) ∧ wr.cell? ⟨w.heap.size + 1, 2, none⟩ = some (.int .i64 0) ∧ wr.cell? ⟨w.heap.size + 1, 3, none⟩ = some (.int .i64 0) ∧ ∀ j, wr.frozen? ⟨w.heap.size + 1, j, none⟩ = false) ∧
      ∀ u0 u1 u2 u3, Became b0 w p g v σ ((((wr.setCell ⟨w.heap.size + 1, 0, none⟩ u0).setCell ⟨w.heap.size + 1, 1, none⟩ u1).setCell ⟨w.heap.size + 1, 2, none⟩ u2).setCell ⟨w.heap.size + 1, 3, none⟩ u3) σ' from fun wr σ' B hN => by
    have hnf : ¬ foot p g v σ.N (w.heap.size + 1) := unhide HNF _ (by omega)
    refine ⟨?_, fun u0 u1 u2 u3 => Became.tell (Only.of_ext (unhide HE0)) B rfl hN (by omega) hrb hnf u0 u1 u2 u3⟩
    obtain ⟨v', S', O', F'⟩ := B
    obtain ⟨h0, h1, h2, h3, hf⟩ := unhide HR
    exact ⟨O'.keepc h0 hnf, O'.keepc h1 hnf, O'.keepc h2 hnf, O'.keepc h3 hnf, fun j => (World.frozen?_of_block (a := ⟨w.heap.size + 1, j, none⟩) (O'.block _ hrb hnf)).trans (hf j)⟩)
  have hqf := (hx q (.inr rfl)).1
  have hdf : ¬ foot p g v σ.N w.heap.size := unhide HNF _ (Nat.le_refl _)
  have HKB := hide (show ∀ (W1 w' : World) (σ' : Sto), Ext W0 W1 → Became b0 W1 p g v σ w' σ' → ∀ W, Ext w' W → W.cell? ⟨q, 0, none⟩ = some (.pointer (some ⟨p, 0, none⟩)) ∧ W.cell? ⟨w.heap.size, 0, none⟩ = some (.int .i64 kind) ∧ W.cell? ⟨w.heap.size, 1, none⟩ = some (.int .i64 key) ∧ W.cell? ⟨w.heap.size, 2, none⟩ = some (.int .i64 n) ∧ W.cell? ⟨w.heap.size, 3, none⟩ = some (.string s) from fun W1 w' σ' E B W E' => by
    obtain ⟨v', S', O', F'⟩ := B
    exact ⟨E'.keep (O'.keepc (E.keep cq0) hqf), E'.keep (O'.keepc (E.keep d0) hdf), E'.keep (O'.keepc (E.keep d1) hdf), E'.keep (O'.keepc (E.keep d2) hdf), E'.keep (O'.keepc (E.keep d3) hdf)⟩)
  clear S Fi hW0 hn2 E0 cq fq nX hx r0 r1 r2 r3 rf hss HR
  obtain ⟨tx, htx⟩ : ∃ tx, tx = (σ.doS kind key n s).1.text := ⟨_, rfl⟩
  obtain ⟨tt, htt⟩ : ∃ tt, tt = (σ.doS kind key n s).1.at_ := ⟨_, rfl⟩
  obtain ⟨tm, htm⟩ : ∃ tm, tm = (σ.doS kind key n s).1.many := ⟨_, rfl⟩
  obtain ⟨er, her⟩ : ∃ er, er = (σ.doS kind key n s).1.err := ⟨_, rfl⟩
  rw [← htx, ← htt, ← htm, ← her] at CD
  have HP := hide (show (er = 0 → DoPost (σ.doS kind key n s).1 (.returned (.agg #[.string tx, .int .i64 (tt : Int), .int .i64 0, .int .i64 (tm : Int)]))) ∧ (er ≠ 0 → DoPost (σ.doS kind key n s).1 (thrown er)) from by
    unfold DoPost toldD
    rw [htx, htt, htm, her]
    exact ⟨fun h => by rw [if_pos h], fun h => by rw [if_neg h]⟩)
  clear htx htt htm her
  generalize (σ.doS kind key n s).1 = an at *
  generalize (σ.doS kind key n s).2 = τ at *
  have HKQ := hide (show ∀ W, Ext W0 W → W.cell? ⟨q, 0, none⟩ = some (.pointer (some ⟨p, 0, none⟩)) from fun W E => E.keep cq0)
  have CB : Hid (Calls Tryz.prog 45 #[.pointer (some ⟨p, 0, none⟩), .agg #[.int .i64 kind, .int .i64 key, .int .i64 n, .string s]] W0.drew fun e w' => e = .returned (.tuple #[.agg #[.string tx, .int .i64 (tt : Int), .int .i64 0, .int .i64 (tm : Int)], .int .i64 er]) ∧ Hid (Became b0 W0 p g v σ w' τ) ∧ Hid (∀ W, Ext w' W → W.cell? ⟨q, 0, none⟩ = some (.pointer (some ⟨p, 0, none⟩)) ∧ W.cell? ⟨w.heap.size, 0, none⟩ = some (.int .i64 kind) ∧ W.cell? ⟨w.heap.size, 1, none⟩ = some (.int .i64 key) ∧ W.cell? ⟨w.heap.size, 2, none⟩ = some (.int .i64 n) ∧ W.cell? ⟨w.heap.size, 3, none⟩ = some (.string s))) :=
    hide ((unhide CD _ ((unhide HS0).keep (Ext.refl _).drew)).mono fun e w' ⟨he, B⟩ => ⟨he, hide (Became.pre (Ext.refl _).drew B), hide (unhide HKB _ _ _ (Ext.refl _).drew B)⟩)
  obtain ⟨Z, hZ⟩ : ∃ Z, Z = Obj.cells #[.string ⟨#[]⟩, .int .i64 0, .int .i64 0, .int .i64 0] 67 := ⟨_, rfl⟩
  have CA : Hid (Calls Tryz.prog 45 #[.pointer (some ⟨p, 0, none⟩), .agg #[.int .i64 kind, .int .i64 key, .int .i64 n, .string s]] (W0.alloc Z).drew fun e w' => e = .returned (.tuple #[.agg #[.string tx, .int .i64 (tt : Int), .int .i64 0, .int .i64 (tm : Int)], .int .i64 er]) ∧
      (w'.cell? ⟨W0.heap.size, 0, none⟩ = some (.string ⟨#[]⟩) ∧ w'.cell? ⟨W0.heap.size, 1, none⟩ = some (.int .i64 0) ∧ w'.cell? ⟨W0.heap.size, 2, none⟩ = some (.int .i64 0) ∧ w'.cell? ⟨W0.heap.size, 3, none⟩ = some (.int .i64 0) ∧ ∀ j, w'.frozen? ⟨W0.heap.size, j, none⟩ = false) ∧
      Hid (∀ u0 u1 u2 u3, Became b0 W0 p g v σ ((((w'.setCell ⟨W0.heap.size, 0, none⟩ u0).setCell ⟨W0.heap.size, 1, none⟩ u1).setCell ⟨W0.heap.size, 2, none⟩ u2).setCell ⟨W0.heap.size, 3, none⟩ u3) τ) ∧ Hid (∀ W, Ext w' W → W.cell? ⟨q, 0, none⟩ = some (.pointer (some ⟨p, 0, none⟩)) ∧ W.cell? ⟨w.heap.size, 0, none⟩ = some (.int .i64 kind) ∧ W.cell? ⟨w.heap.size, 1, none⟩ = some (.int .i64 key) ∧ W.cell? ⟨w.heap.size, 2, none⟩ = some (.int .i64 n) ∧ W.cell? ⟨w.heap.size, 3, none⟩ = some (.string s))) := by
    have EZ : Ext W0 (W0.alloc Z).drew := ((Ext.refl _).alloc _).drew
    have hsz := (unhide HE0).size
    have hnf : ¬ foot p g v σ.N W0.heap.size := unhide HNF _ hsz
    have hlt : W0.heap.size < (W0.alloc Z).drew.heap.size := by simp
    refine hide ((unhide CD _ ((unhide HS0).keep EZ)).mono fun e w' ⟨he, B⟩ => ⟨he, ?_, hide fun u0 u1 u2 u3 => Became.tell (Only.of_ext EZ) B rfl hN (Nat.le_refl _) hlt hnf u0 u1 u2 u3, hide (unhide HKB _ _ _ EZ B)⟩)
    obtain ⟨v', S', O', F'⟩ := B
    have c := fun j => new_cell W0 #[.string ⟨#[]⟩, .int .i64 0, .int .i64 0, .int .i64 0] 67 j
    have f := fun j => new_frozen W0 #[.string ⟨#[]⟩, .int .i64 0, .int .i64 0, .int .i64 0] 67 j
    rw [← hZ] at c f
    exact ⟨O'.keepc (c 0) hnf, O'.keepc (c 1) hnf, O'.keepc (c 2) hnf, O'.keepc (c 3) hnf, fun j => (World.frozen?_of_block (a := ⟨W0.heap.size, j, none⟩) (O'.block _ hlt hnf)).trans (f j)⟩
  have HTB := hide (show ∀ (wr : World), Became b0 W0 p g v σ wr τ → _ from fun wr B => unhide HT wr τ B hN)
  subst hZ
  have HKS := hide (show ∀ W, Ext W0 W → W.cell? ⟨q, 0, none⟩ = some (.pointer (some ⟨p, 0, none⟩)) ∧ W.cell? ⟨w.heap.size, 0, none⟩ = some (.int .i64 kind) ∧ W.cell? ⟨w.heap.size, 1, none⟩ = some (.int .i64 key) ∧ W.cell? ⟨w.heap.size, 2, none⟩ = some (.int .i64 n) ∧ W.cell? ⟨w.heap.size, 3, none⟩ = some (.string s) from fun W E => ⟨E.keep cq0, E.keep d0, E.keep d1, E.keep d2, E.keep d3⟩)
  have HRB := hide hrb
  have cqd := unhide HKQ _ (Ext.refl _).drew
  clear CD HT
  go_enter Tryz.func29, Tryz.ntmps29
  go_upto_region 1 with fail
  rw [← unhide HW0]
  go_cut [5, 6] from 5 to 16 (fun a b wx => ∃ B5 : Nat, a = .pointer (some ⟨B5, 0, none⟩) ∧ b = .int .i64 er ∧ Hid (Became b0 W0 p g v σ wx τ) ∧ (wx.cell? ⟨B5, 0, none⟩ = some (.string tx) ∧ wx.cell? ⟨B5, 1, none⟩ = some (.int .i64 (tt : Int)) ∧ wx.cell? ⟨B5, 2, none⟩ = some (.int .i64 0) ∧ wx.cell? ⟨B5, 3, none⟩ = some (.int .i64 (tm : Int))))
  case first =>
    go_region_held3 (fun W => W.cell? ⟨q, 0, none⟩ = some (.pointer (some ⟨p, 0, none⟩)) ∧ W.cell? ⟨w.heap.size, 0, none⟩ = some (.int .i64 kind) ∧ W.cell? ⟨w.heap.size, 1, none⟩ = some (.int .i64 key) ∧ W.cell? ⟨w.heap.size, 2, none⟩ = some (.int .i64 n) ∧ W.cell? ⟨w.heap.size, 3, none⟩ = some (.string s)) (first
      | exact unhide HKS _ (Ext.refl _).drew
      | exact unhide HKS _ ((Ext.refl _).alloc _).drew
      | exact unhide HS2 _ (Ext.refl _)
      | exact unhide HS2 _ ((Ext.refl _).alloc _)
      | exact unhide HKB _ _ _ (Ext.refl _) (unhide HB2 _ _ _ _) _ (Ext.refl _)) (first
      | (go_at_call 45; refine (unhide CA).mono ?_; rintro e w2 ⟨rfl, ⟨z0, z1, z2, z3, zf⟩, HB2, HS2⟩)
      | (go_at_call 45; refine (unhide CB).mono ?_; rintro e w2 ⟨rfl, HB2, HS2⟩))
    all_goals
      go_wp2_with fail
      go_meet
      case rel =>
        first
        | exact ⟨w2.heap.size, rfl, rfl, hide ((unhide HB2).ext ((Ext.refl _).alloc _)), new_cell _ _ _ _, new_cell _ _ _ _, new_cell _ _ _ _, new_cell _ _ _ _⟩
        | exact ⟨W0.heap.size, rfl, rfl, hide (unhide HB2 _ _ _ _), set4_cells z0 z1 z2 z3 _ _ _ _⟩
  case rest =>
    obtain ⟨B5, rfl, rfl, HB5, t0, t1, t2, t3⟩ := hcut
    obtain ⟨⟨r0, r1, r2, r3, rf⟩, HFIN⟩ := unhide HTB _ (unhide HB5)
    have HFI := hide HFIN
    clear HFIN
    by_cases he : er = 0
    · subst he
      have HPP := hide ((unhide HP).1 rfl)
      go_wp2_with fail
      refine (check_ok _).mono ?_
      rintro e w3 ⟨rfl, rfl⟩
      go_wp2
      refine bodyPost_ret (v := .agg #[.string tx, .int .i64 (tt : Int), .int .i64 0, .int .i64 (tm : Int)]) (by simp [results, Tryz.results29, go_sem, World.cell?_setCell_same', r0, r1, r2, r3]) rfl ?_
      exact ⟨unhide HPP, unhide HB _ (unhide HFI _ _ _ _)⟩
    · have HPP := hide ((unhide HP).2 he)
      go_wp2_with fail
      refine (check_bad _ he _).mono ?_
      rintro e w3 ⟨rfl, rfl⟩
      have HB3 := hide (unhide HB _ (Became.trans_ (Only.of_ext (unhide HE0)) (fun _ h => .inl h) (unhide HB5) rfl))
      unfold thrown
      go_wp2
      exact ⟨rfl, unhide HPP, unhide HB3⟩
end Go.Proofs.YtpenkbhljkmliaaGreatDoor
