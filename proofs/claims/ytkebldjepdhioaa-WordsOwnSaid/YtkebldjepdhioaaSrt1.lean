/-
  A row of uint16 of the call's own that is shuffled in place: 'Sl w0 W ..'; cmp.Less at uint16; insertionSortOrdered.
-/
import Derived.Test.YtkebldjepdhioaaSrt0
import Derived.Test.YtkebldjepdhioaaMake
import Derived.Deep.RegionLaw
import Derived.Deep.RegionHeld3
import Derived.BigRegion
set_option linter.unusedVariables false
set_option linter.unusedSimpArgs false
namespace Go.Proofs.Ytkebldjepdhioaa
open Go.RowKit Go.BigFrame

/-- Only block g (and new ones) turn. -/
structure Oth (g : Nat) (w w' : World) : Prop where
  os : w'.os = w.os
  tape : w'.tape = w.tape
  output : w'.output = w.output
  size : w.heap.size ≤ w'.heap.size
  block : ∀ k, k < w.heap.size → k ≠ g → w'.heap[k]? = w.heap[k]?
section
variable {g : Nat} {w w' w'' : World}
theorem Oth.of_ext (E : Ext w w') : Oth g w w' := ⟨E.os, E.tape, E.output, E.size, fun k hk _ => Below.block E k hk⟩
theorem Oth.refl (g : Nat) (w : World) : Oth g w w := Oth.of_ext (Ext.refl w)
theorem Oth.trans (h : Oth g w w') (k : Oth g w' w'') : Oth g w w'' :=
  ⟨k.os.trans h.os, k.tape.trans h.tape, k.output.trans h.output, Nat.le_trans h.size k.size, fun x hx hn => (k.block x (Nat.lt_of_lt_of_le hx h.size) hn).trans (h.block x hx hn)⟩
theorem Oth.ext {a : World} (h : Oth g w w') (E : Ext a w) (hg : a.heap.size ≤ g) : Ext a w' :=
  ⟨h.os.trans E.os, h.tape.trans E.tape, h.output.trans E.output, Nat.le_trans E.size h.size, fun k hk => (h.block k (Nat.lt_of_lt_of_le hk E.size) (by omega)).trans (Below.block E k hk)⟩
theorem Oth.set (h : Oth g w w') {j : Nat} (u : Value) : Oth g w (w'.setCell ⟨g, j, none⟩ u) :=
  ⟨h.os, h.tape, h.output, by simpa using h.size, fun k hk hn => by
    rw [← h.block k hk hn]
    simp only [World.setCell]
    rw [Array.getElem?_modify, if_neg (fun e => hn e.symm)]⟩
end
structure Sl (w0 W : World) (base g n c : Nat) (f : Nat → Nat) : Prop where
  made : Made W base 26 1 (.slice (some ⟨g, 0, none⟩) n c) n (nats .u16 (Wm.mkS n f))
  oth : Oth g w0 W
section
variable {w0 W W' : World} {base g n c : Nat} {f f' : Nat → Nat}
theorem Sl.cell (S : Sl w0 W base g n c f) {i : Nat} (hi : i < n) : W.cell? ⟨g, i, none⟩ = some (.int .u16 ((f i : Nat) : Int)) := by rw [S.made.nat hi, Wm.mkS_get _ hi]
theorem Sl.fro (S : Sl w0 W base g n c f) (i : Nat) : W.frozen? ⟨g, i, none⟩ = false := S.made.frozen i
theorem Sl.here (S : Sl w0 W base g n c f) : Sl W W base g n c f := ⟨S.made, Oth.refl g W⟩
theorem Sl.keep (S : Sl w0 W base g n c f) (E : Ext W W') : Sl w0 W' base g n c f := ⟨S.made.keep E, S.oth.trans (Oth.of_ext E)⟩
theorem Sl.trans (S : Sl w0 W base g n c f) (T : Sl W W' base g n c f') : Sl w0 W' base g n c f' := ⟨T.made, S.oth.trans T.oth⟩
theorem Sl.drewN (S : Sl w0 W base g n c f) (k : Nat) : Sl w0 (W.drewN k) base g n c f := S.keep ((Ext.refl W).drewN k)
theorem mkS_set (n : Nat) (f : Nat → Nat) {i : Nat} (x : Nat) (hi : i < n) : (Wm.mkS n f).set i x = Wm.mkS n (fun k => if k = i then x else f k) := by
  apply List.ext_getElem (by simp [Wm.mkS])
  intro k h1 h2
  simp only [Wm.mkS, List.getElem_set, List.getElem_map, List.getElem_range]
  by_cases e : i = k
  · rw [if_pos e, if_pos e.symm]
  · rw [if_neg e, if_neg (fun h => e h.symm)]
theorem Sl.set (S : Sl w0 W base g n c f) {i : Nat} (hi : i < n) (x : Nat) : Sl w0 (W.setCell ⟨g, i, none⟩ (.int .u16 (x : Int))) base g n c (fun k => if k = i then x else f k) := by
  refine ⟨?_, S.oth.set _⟩
  have := S.made.set (j := i) (by omega) (.int .u16 (x : Int))
  rwa [nats_set, mkS_set n f x hi] at this
theorem Sl.congr (S : Sl w0 W base g n c f) (h : ∀ k, k < n → f' k = f k) : Sl w0 W base g n c f' := ⟨by rw [Wm.mkS_congr h]; exact S.made, S.oth⟩
/-- Two places exchanged: i is written first. -/
theorem Sl.swap (S : Sl w0 W base g n c f) {i j x y : Nat} (hi : i < n) (hj : j < n) (hx : f i = x) (hy : f j = y) :
    Sl w0 ((W.setCell ⟨g, i, none⟩ (.int .u16 (y : Int))).setCell ⟨g, j, none⟩ (.int .u16 (x : Int))) base g n c (Wm.swf f i j) := by
  refine ((S.set hi y).set hj x).congr fun k hk => ?_
  show Wm.swf f i j k = _
  unfold Wm.swf
  by_cases e : k = j
  · by_cases e2 : k = i
    · subst e; subst e2; simp [hx]
    · subst e; simp [e2, hx]
  · by_cases e2 : k = i
    · subst e2; simp [e, hy]
    · simp [e, e2]
theorem Sl.swap_self (S : Sl w0 W base g n c f) {i x : Nat} (hi : i < n) (hx : f i = x) :
    Sl w0 ((W.setCell ⟨g, i, none⟩ (.int .u16 (x : Int))).setCell ⟨g, i, none⟩ (.int .u16 (x : Int))) base g n c (Wm.swf f i i) := S.swap hi hi hx hx
end
/-- What a function that shuffles a range leads to. -/
def SrtPost (w : World) (base g n c a b : Nat) (f : Nat → Nat) (Q : (Nat → Nat) → Prop) (w' : World) : Prop := ∃ f', Wm.Shuf a b f f' ∧ Q f' ∧ Sl w w' base g n c f'

set_option maxRecDepth 100000 in
theorem isNaN_u16 (x : Int) (w : World) : Calls Try.prog 77 #[.int .u16 x] w fun e w' => e = .returned (.bool false) ∧ w' = w := by
  go_enter Try.func77, Try.ntmps77
  go_wp2
  go_ret
  exact ⟨ret_boolv (by simp), rfl⟩
set_option maxRecDepth 100000 in
theorem Less_u16 (x y : Nat) (w : World) : Calls Try.prog 67 #[.int .u16 x, .int .u16 y] w fun e w' => e = .returned (.bool (decide (x < y))) ∧ ∃ k, w' = w.drewN k := by
  have C := hide (fun (x : Int) (w : World) => isNaN_u16 x w)
  go_enter Try.func67, Try.ntmps67
  go_wp2_with (go_at_call 77; refine (unhide C _ _).mono ?_; rintro e w' ⟨rfl, rfl⟩)
  go_ret
  exact ⟨by first | rfl | exact ret_boolv (by simp), 0, rfl⟩

set_option maxRecDepth 100000 in
set_option maxHeartbeats 2000000 in
theorem insertion_u16 (base g n c a b : Nat) (f : Nat → Nat) (w : World) (S : Sl w w base g n c f) (hab : a ≤ b) (hb : b ≤ n) (hn : n ≤ 1000) :
    Calls Try.prog 61 #[.slice (some ⟨g, 0, none⟩) n c, .int .i64 a, .int .i64 b] w fun e w' => e = .returned (.tuple #[]) ∧ SrtPost w base g n c a b f (Wm.Srtd a b) w' := by
  have HS := hide S
  have CL := hide (fun (x y : Nat) (w : World) => Less_u16 x y w)
  clear S
  go_enter Try.func61, Try.ntmps61
  go_wp2
  go_loopw [6] (fun i wr => ∃ (k : Nat) (h : Nat → Nat), a < k ∧ (k ≤ b ∨ k = a + 1) ∧ i = .int .i64 k ∧ Hid (Wm.Shuf a b f h) ∧ Hid (Wm.Srtd a k h) ∧ Hid (Sl w wr base g n c h)) (fun i _ => n + 2 - (intOf i).toNat)
  case atStart => exact ⟨a + 1, f, by omega, .inr rfl, by go_num, hide (Wm.Shuf.refl a b f), hide (fun p q h1 h2 h3 => by omega), HS⟩
  case round =>
    clear HS
    obtain ⟨k, h, hak, hkb, rfl, HF, HO, HS⟩ := hrel
    by_cases hlt : k < b
    · have HI := hide (Wm.InsA.start (unhide HO))
      clear HO
      go_wp2
      go_loopw [7] (fun jv wz => ∃ (j : Nat) (h : Nat → Nat), a ≤ j ∧ j ≤ k ∧ jv = .int .i64 j ∧ Hid (Wm.Shuf a b f h) ∧ Hid (Wm.InsA a (k + 1) j h) ∧ Hid (Sl w wz base g n c h)) (fun jv _ => (intOf jv).toNat)
      case atStart => exact ⟨k, h, by omega, Nat.le_refl _, rfl, HF, HI, HS⟩
      case round =>
        clear HF HI HS
        obtain ⟨j, h, haj, hjk, rfl, HF, HI, HS⟩ := hrel
        by_cases hj : a < j
        · have c1 := (unhide HS).cell (i := j) (by omega)
          have c2 := (unhide HS).cell (i := j - 1) (by omega)
          obtain ⟨q, hq⟩ : ∃ q, q = j - 1 := ⟨_, rfl⟩
          have hj1 : (j : Int) - 1 = (q : Int) := by omega
          have hqn : q < n := by omega
          have hqw : IntKind.i64.wrap (q : Int) = (q : Int) := IntWalk.i64_in _ (by omega)
          have hjn : j < n := by omega
          have hqj : q ≠ j := by omega
          rw [← hq] at c2
          obtain ⟨x, hx⟩ : ∃ x, x = h j := ⟨_, rfl⟩
          obtain ⟨y, hy⟩ : ∃ y, y = h (q) := ⟨_, rfl⟩
          have f1 := (unhide HS).fro j
          have f2 := (unhide HS).fro (q)
          have CX := hide (fun w : World => unhide CL x y w)
          have HSW := hide (fun m => ((unhide HS).drewN m).swap (i := j) (j := q) hjn hqn hx.symm hy.symm)
          have HFW := hide ((unhide HF).step (i := j) (j := q) ⟨by omega, by omega⟩ ⟨by omega, by omega⟩)
          have HX := hide hx
          have HY := hide hy
          rw [← hx] at c1
          rw [← hy] at c2
          clear hx hy
          have HQ := hide hq
          clear hq
          by_cases hl : x < y
          · rw [decide_eq_true hl] at CX
            have HIW := hide (show Wm.InsA a (k + 1) q (Wm.swf h j q) by
              rw [unhide HQ]
              exact (unhide HI).step hj (by omega) (by rw [← unhide HX, ← unhide HQ, ← unhide HY]; exact hl))
            go_wp2
            go_quiet ((go_at_call 67; with_reducible exact Calls.quiet_of (unhide CX _)))
            go_wp2
            go_region_law (fail)
            all_goals
              go_wp2
              go_roundw
              case rel => exact ⟨q, Wm.swf h j (q), by omega, by omega, by go_num, HFW, HIW, hide (unhide HSW _)⟩
              case measure => simp [intOf]; omega
          · rw [decide_eq_false hl] at CX
            have HO := hide ((unhide HI).done (.inr (by rw [← unhide HX, ← unhide HQ, ← unhide HY]; omega)))
            go_wp2
            go_quiet ((go_at_call 67; with_reducible exact Calls.quiet_of (unhide CX _)))
            go_wp2
            go_roundw
            case rel => exact ⟨k + 1, h, by omega, by omega, by go_num, HF, HO, hide ((unhide HS).drewN _)⟩
            case measure => simp [intOf]; omega
        · obtain rfl : j = a := by omega
          have HO := hide ((unhide HI).done (.inl (Nat.le_refl _)))
          go_wp2
          go_quiet (fail)
          go_wp2
          go_roundw
          case rel => exact ⟨k + 1, h, by omega, by omega, by go_num, HF, HO, hide ((unhide HS).drewN _)⟩
          case measure => simp [intOf]; omega
    · have HO2 := hide (show Wm.Srtd a b h from fun p q h1 h2 h3 => unhide HO p q h1 h2 (by omega))
      go_wp2
      go_end0
      exact ⟨rfl, h, unhide HF, unhide HO2, unhide HS⟩
end Go.Proofs.Ytkebldjepdhioaa
