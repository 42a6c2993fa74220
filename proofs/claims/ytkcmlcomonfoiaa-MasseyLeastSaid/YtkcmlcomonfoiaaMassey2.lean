/-
  The contract of massey.Rule.
-/
import Derived.Test.YtkcmlcomonfoiaaMassey1
import Derived.Deep.RegionHeld3
import Derived.Deep.RegionLaw
import Derived.StillTailTactics
set_option linter.unusedVariables false
set_option linter.unusedSimpArgs false
namespace Wm
theorem St.le {s : Nat → Bool} {i L : Nat} {C B : Nat → Bool} {g : Nat} (h : St s i C L B g) : L ≤ i := h.2.2.1
theorem St.pos {s : Nat → Bool} {i L : Nat} {C B : Nat → Bool} {g : Nat} (h : St s i C L B g) : 1 ≤ g := h.2.2.2.1
theorem St.gap {s : Nat → Bool} {i L : Nat} {C B : Nat → Bool} {g : Nat} (h : St s i C L B g) : g ≤ i + 1 := by
  rcases h.2.2.2.2 with ⟨-, -, h⟩ | h
  · omega
  · obtain ⟨m, LB, h⟩ := h
    omega
end Wm
namespace Go.Proofs.Ytkcmlcomonfoiaa
open Go.RowKit Go.BigFrame

theorem byteM : EInfo Try.prog 22 5 (.int .u8 0) 1 1 := EInfo.mk_ Try.underlying22 (by kernel_rfl) rfl (by omega)
theorem Made.other {w : World} {base e sz n : Nat} {v : Value} {xs : List Value} (h : Made w base e sz v n xs) {p : Addr} (hne : v.ownBlock ≠ some p.block) (u : Value) : Made (w.setCell p u) base e sz v n xs := by
  obtain ⟨h1, h2⟩ := h
  refine ⟨h1, ?_⟩
  rcases h2 with h2 | ⟨g, cap, cur, rfl, hg, hh, r⟩
  · exact .inl h2
  · have hgp : g ≠ p.block := fun e => hne (by rw [← e]; rfl)
    exact .inr ⟨g, cap, cur, rfl, hg, by simp [World.setCell, Array.getElem?_modify, Ne.symm hgp, hh], r⟩

set_option maxRecDepth 100000 in
set_option maxHeartbeats 1000000 in
theorem clone_byte (A : Option Addr) (n c : Nat) (xs : List Value) (w : World) (R : Row w A n 1 xs) (h1 : ∀ u ∈ xs, u.oneCell' = true) (hb : n * 1 ≤ 140737488355328) (hnil : A = none → n = 0 ∧ c = 0) :
    Calls Try.prog 33 #[.slice A n c] w fun e w' => (∃ v, e = .returned v ∧ w'.ownsRow w.heap.size 5 1 v n xs) ∧ Ext w w' := by
  have hi0 : (Try.prog.info? 5).map (fun i => (i.zero, i.size, i.bytes)) = some (some (.int .u8 0), 1, 1) := by kernel_rfl
  obtain ⟨i0, hi, hz0, hz1, hz2⟩ := info_parts hi0
  cases A with
  | none =>
    obtain ⟨rfl, rfl⟩ := hnil rfl
    obtain rfl := R.empty
    have heq := fun w : World => Lib.run_eql_slice_nil w 22 5 none 0 0 0 0 Try.underlying22
    go_enter Try.func33, Try.ntmps33
    go_wp2
    go_ret
    exact ⟨⟨_, rfl, World.ownsRow_nil _ _ _ _⟩, Ext.refl _⟩
  | some ad =>
    have heq := fun w : World => Lib.run_eql_slice_nil w 22 5 (some ad) n c 0 0 Try.underlying22
    have hr := R.2
    have hl := R.1
    have hown := World.ownsRow_lit (base := w.heap.size) (e := 5) (size := 1) w #[] 0 (Nat.le_refl _) (by unfold maxLen; omega) rfl
    have HR := hide hr
    have HL := hide hl
    clear R hnil hr hl
    go_enter Try.func33, Try.ntmps33
    go_wp2_with (at_builtin; refine wpList_append_own _ rfl _ _ 22 rfl w.heap.size 5 i0 (.int .u8 0) 1 1 Try.underlying22 hi hz0 hz1 hz2 rfl (by decide) _ _ _ rfl hown ad n c xs rfl (unhide HL) ?c1 h1 (by unfold maxLen; omega) (by omega) (by simp) ?_)
    case c1 =>
      intro j u hj
      have hjn : j < n * 1 := by
        have := (List.getElem?_eq_some_iff.1 hj).1
        have := unhide HL
        omega
      obtain ⟨b, o, e, hb, hc⟩ := unhide HR (by omega)
      injection e with e
      subst e
      have hj' := (hc j hjn).trans hj
      have : (⟨b, o, none⟩ : Addr).add j = ⟨b, o + j, none⟩ := by
        unfold Addr.add
        split
        · rename_i h0; simp [h0]
        · rfl
      rw [this]
      exact (World.cell?_alloc_lt _ _ _ hb).trans hj'
    intro v' w' hown' hgrow _
    have hown2 : w'.ownsRow w.heap.size 5 1 v' n xs := by simpa using hown'
    have E1 : Ext w w' := ((Ext.refl w).alloc _).grown hgrow (fun q hq => by simp [Value.ownBlock] at hq; omega)
    clear hgrow
    go_wp2
    go_ret
    exact ⟨⟨_, rfl, hown2⟩, E1⟩

theorem bsl_one {N : Nat} (h : 1 ≤ N) : (List.replicate N (Value.int .u8 0)).set 0 (.int .u8 1) = nats .u8 (bsl Wm.one N) := by
  apply List.ext_getElem (by simp [nats, bsl])
  intro j h1 h2
  rw [List.getElem_set]
  by_cases e : 0 = j
  · subst e; simp [nats, bsl, Wm.one]
  · rw [if_neg e]
    have : Wm.one j = false := decide_eq_false (by omega)
    simp [nats, bsl, this]

section
variable {w : World} {base : Nat} {e : TypeId} {sz n : Nat} {xs : List Value}
theorem Made.rowS {g c : Nat} (h : Made w base e sz (.slice (some ⟨g, 0, none⟩) n c) n xs) : Row w (some ⟨g, 0, none⟩) n sz xs := by
  obtain ⟨A, c', hv, R, -⟩ := h.open_
  injection hv with hv
  subst hv
  exact R
theorem Made.someS {v : Value} (h : Made w base e sz v n xs) (hn : 0 < n) : ∃ g c, v = .slice (some ⟨g, 0, none⟩) n c ∧ base ≤ g := by
  rcases h.2 with ⟨-, h⟩ | ⟨g, c, cur, hv, hg, -⟩
  · omega
  · exact ⟨g, c, hv, hg⟩
end
theorem Made.tailS {w : World} {base : Nat} {e : TypeId} {n g c : Nat} {C : Nat → Bool} (h : Made w base e 1 (.slice (some ⟨g, 0, none⟩) n c) n (nats .u8 (bsl C n))) {L : Nat} (hL : L + 1 ≤ n) : Row w (some ⟨g, 1, none⟩) L 1 (nats .u8 (bsl (fun k => C (k + 1)) L)) := by
  refine ⟨by rw [nats_length, bsl_length, Nat.mul_one], fun _ => ⟨g, 1, rfl, (h.lt g rfl).2, fun j hj => ?_⟩⟩
  have := h.nat (k := 1 + j) (by omega)
  rw [bsl_get _ (by omega)] at this
  rw [this, nats_get _ _ _ (by rw [bsl_length]; omega), bsl_get _ (by omega), Nat.add_comm 1 j]
theorem nats_one (K : IntKind) (l : List Nat) : ∀ u ∈ nats K l, u.oneCell' = true := fun u hu => by
  obtain ⟨x, -, rfl⟩ := List.mem_map.1 hu
  rfl
theorem hid_drew {w : World} {base e : TypeId} {sz n : Nat} {v : Value} {xs : List Value} (h : Hid (Made w base e sz v n xs)) : Hid (Made w.drew base e sz v n xs) := hide ((unhide h).keep (Ext.refl w).drew)
/-- Turned up to k. -/
def part (C B : Nat → Bool) (g k : Nat) : Nat → Bool := fun j => if j < k + g then Wm.fixed C B g j else C j
theorem part_zero (C B : Nat → Bool) (g : Nat) : part C B g 0 = C := by
  funext j
  unfold part
  split
  · unfold Wm.fixed
    rw [decide_eq_false (by omega)]; simp
  · rfl
theorem part_at (C B : Nat → Bool) (g k : Nat) : part C B g k (k + g) = C (k + g) := by
  unfold part; rw [if_neg (by omega)]
theorem part_all (C B : Nat → Bool) (g : Nat) {k N : Nat} (h : N ≤ k + g) : bsl (part C B g k) N = bsl (Wm.fixed C B g) N :=
  bsl_congr fun j hj => by unfold part; rw [if_pos (by omega)]
theorem part_set (C B : Nat → Bool) (g : Nat) {k N : Nat} (h : k + g < N) : (bsl (part C B g k) N).set (k + g) (xor (C (k + g)) (B k)).toNat = bsl (part C B g (k + 1)) N := by
  apply List.ext_getElem (by simp [bsl])
  intro j h1 h2
  rw [List.getElem_set]
  by_cases e : k + g = j
  · subst e
    simp only [if_true, bsl, List.getElem_map, List.getElem_range]
    unfold part
    rw [if_pos (by omega)]
    unfold Wm.fixed
    rw [decide_eq_true (by omega), Nat.add_sub_cancel]; simp
  · rw [if_neg e]
    simp only [bsl, List.getElem_map, List.getElem_range]
    unfold part
    by_cases hj : j < k + g
    · rw [if_pos hj, if_pos (by omega)]
    · rw [if_neg hj, if_neg (by omega)]

def RulePost (f : Nat → Bool) (n : Nat) (w w' : World) (e : Ending) : Prop := ∃ (C B : Nat → Bool) (L g : Nat) (v : Value), Wm.St f n C L B g ∧ e = .returned (.tuple #[v, .int .i64 0]) ∧ Made w' w.heap.size 5 1 v L (nats .u8 (bsl (fun k => C (k + 1)) L))
set_option maxRecDepth 100000 in
set_option maxHeartbeats 4000000 in
theorem Rule_ok (A : Option Addr) (n c : Nat) (f : Nat → Bool) (w : World) (R : RowB w A n f) (hn : n ≤ 60) :
    Calls Try.prog 13 #[.slice A n c] w fun e w' => RulePost f n w w' e ∧ Ext w w' := by
  have CK := hide (mcheck_ok A n c f w R hn)
  obtain ⟨N, hN⟩ : ∃ N, N = n + 1 := ⟨_, rfl⟩
  have hmk : ∀ w : World, (Instr.makeSlice 22 (.int .i64 (N : Int)) (.int .i64 (N : Int))).run Try.prog w = .ok (.slice (some ⟨w.heap.size, 0, none⟩) N N) (w.alloc (.cells (madeCells #[.int .u8 0] N) 5)) := fun w => by
    have := make_run byteM N N (Nat.le_refl _) (by omega) (by omega) w
    rw [Nat.mul_one] at this
    exact this
  have hwN : IntKind.i64.wrap ((n : Int) + 1) = (N : Int) := (IntWalk.i64_in _ (by omega)).trans (by omega)
  obtain ⟨Q, hQ⟩ : ∃ Q : Obj, Q = .cells (madeCells #[.int .u8 0] N) 5 := ⟨_, rfl⟩
  have M0 : Made ((w.alloc Q).alloc Q).drew w.heap.size 5 1 (.slice (some ⟨w.heap.size, 0, none⟩) N N) N (List.replicate N (.int .u8 0)) := by
    rw [hQ]
    exact (Made.make (w := w) (base := w.heap.size) (e := 5) (.int .u8 0) N (Nat.le_refl _) (by omega)).keep (((Ext.refl _).alloc _).drew)
  have M1 : Made ((w.alloc Q).alloc Q).drew w.heap.size 5 1 (.slice (some ⟨w.heap.size + 1, 0, none⟩) N N) N (List.replicate N (.int .u8 0)) := by
    rw [hQ]
    have := (Made.make (w := w.alloc (.cells (madeCells #[.int .u8 0] N) 5)) (base := w.heap.size) (e := 5) (.int .u8 0) N (by simp) (by omega)).keep ((Ext.refl _).drew)
    simpa using this
  have hN1 : N ≤ n + 1 := by omega
  have hN2 : n + 1 ≤ N := by omega
  clear hN
  have HM0 := hide M0
  have HM1 := hide M1
  have HQ := hide hQ
  have HR := hide R
  have EW : Ext w ((w.alloc Q).alloc Q).drew := (((Ext.refl w).alloc _).alloc _).drew
  clear R M0 M1 hQ
  go_enter Try.func13, Try.ntmps13
  go_wp2_with fail
  refine (unhide CK).mono ?_
  rintro e w ⟨rfl, rfl⟩
  go_upto_region 4 with fail
  go_region_held3 (fun _ => True) (trivial) (fail)
  all_goals rw [← unhide HQ]
  · obtain ⟨gn, hgn⟩ : ∃ g, g = w.heap.size := ⟨_, rfl⟩
    obtain ⟨gb0, hgb0⟩ : ∃ g, g = w.heap.size + 1 := ⟨_, rfl⟩
    have hgb : w.heap.size ≤ gn ∧ w.heap.size ≤ gb0 ∧ gb0 ≠ gn := by omega
    have MN : Made ((w.alloc Q).alloc Q).drew w.heap.size 5 1 (.slice (some ⟨gn, 0, none⟩) N N) N (List.replicate N (.int .u8 0)) := by
      rw [hgn]; exact unhide HM0
    have MB : Made ((w.alloc Q).alloc Q).drew w.heap.size 5 1 (.slice (some ⟨gb0, 0, none⟩) N N) N (List.replicate N (.int .u8 0)) := by
      rw [hgb0]; exact unhide HM1
    first | rw [← hgn, ← hgb0] | rw [← hgb0, ← hgn]
    generalize ((w.alloc Q).alloc Q).drew = W at *
    have cn := MN.cell (k := 0) (by omega)
    have fn := MN.frozen 0
    have cb := MB.cell (k := 0) (by omega)
    have fb := MB.frozen 0
    have hne : ¬ gb0 = gn := hgb.2.2
    have hne2 : ¬ gn = gb0 := fun e => hne e.symm
    have MN1 : Made ((W.setCell ⟨gn, 0, none⟩ (.int .u8 1)).setCell ⟨gb0, 0, none⟩ (.int .u8 1)) w.heap.size 5 1 (.slice (some ⟨gn, 0, none⟩) N N) N (nats .u8 (bsl Wm.one N)) := by
      rw [← bsl_one (by omega)]
      exact (MN.set (j := 0) (by omega) _).other (p := ⟨gb0, 0, none⟩) (by simp only [Value.ownBlock, ne_eq, Option.some.injEq]; first | exact hne2 | exact hne) _
    have MB1 : Made ((W.setCell ⟨gn, 0, none⟩ (.int .u8 1)).setCell ⟨gb0, 0, none⟩ (.int .u8 1)) w.heap.size 5 1 (.slice (some ⟨gb0, 0, none⟩) N N) N (nats .u8 (bsl Wm.one N)) := by
      rw [← bsl_one (by omega)]
      exact (MB.other (p := ⟨gn, 0, none⟩) (by simp only [Value.ownBlock, ne_eq, Option.some.injEq]; first | exact hne2 | exact hne) _).set (j := 0) (by omega) _
    have EW1 := ((EW.setCell (p := ⟨gn, 0, none⟩) hgb.1 (.int .u8 1))).setCell (p := ⟨gb0, 0, none⟩) hgb.2.1 (.int .u8 1)
    have HMN := hide MN1
    have HMB := hide MB1
    have HST := hide (Wm.St.start f)
    clear hgn hgb0 HM0 HM1 HQ MN MB MN1 MB1
    go_wp2
    go_loopw [6, 7, 8, 33] (fun bv sv gv i wr => ∃ (k L g : Nat) (C B : Nat → Bool) (gb cb : Nat), k ≤ n ∧ i = .int .i64 k ∧ sv = .int .i64 L ∧ gv = .int .i64 g ∧ bv = .slice (some ⟨gb, 0, none⟩) N cb ∧ gb ≠ gn ∧ w.heap.size ≤ gb ∧
      Hid (Made wr w.heap.size 5 1 (.slice (some ⟨gn, 0, none⟩) N N) N (nats .u8 (bsl C N))) ∧ Hid (Made wr w.heap.size 5 1 (.slice (some ⟨gb, 0, none⟩) N cb) N (nats .u8 (bsl B N))) ∧ Hid (Wm.St f k C L B g) ∧ Ext w wr) (fun _ _ _ i _ => n - (intOf i).toNat)
    case atStart => exact ⟨0, 0, 1, Wm.one, Wm.one, gb0, N, Nat.zero_le _, rfl, rfl, rfl, rfl, hne, hgb.2.1, HMN, HMB, HST, EW1⟩
    case round =>
      clear HMN HMB HST EW1 cn fn cb fb hne hne2 EW
      obtain ⟨i, L, g, C, B, gb, cb, hi, rfl, rfl, rfl, rfl, hne, hgb2, HMN, HMB, HST, hext⟩ := hrel
      have hgn := hgb.1
      clear hgb
      have hLi := (unhide HST).le
      have hg1 := (unhide HST).pos
      have hgi := (unhide HST).gap
      by_cases hlt : i < n
      · obtain ⟨F, hF⟩ : ∃ F, F = fun k => C k && f (i - k) := ⟨_, rfl⟩
        have HF := hide hF
        clear hF
        have w1 : IntKind.i64.wrap ((L : Int) + 1) = ((L + 1 : Nat) : Int) := IntWalk.i64_in _ (by omega)
        have w2 : IntKind.i64.wrap ((g : Int) + 1) = ((g + 1 : Nat) : Int) := IntWalk.i64_in _ (by omega)
        go_wp2
        go_loopw [10, 38] (fun v j wi => ∃ k : Nat, k ≤ L + 1 ∧ j = .int .i64 k ∧ v = .int .u8 (((Wm.xs F k).toNat : Nat) : Int) ∧ Ext wr wi) (fun _ j _ => (L + 1) - (intOf j).toNat)
        case atStart => exact ⟨0, Nat.zero_le _, rfl, rfl, Ext.refl _⟩
        case round =>
          obtain ⟨k, hk, rfl, rfl, hE⟩ := hrel
          by_cases hkL : k < L + 1
          · obtain ⟨b, o, rfl, hb, hc⟩ := ((unhide HR).keep (hext.trans hE)).bit (k := i - k) (by omega)
            have hcn := ((unhide HMN).keep hE).nat (k := k) (by omega)
            rw [bsl_get C (by omega)] at hcn
            have hstep : Wm.xs F (k + 1) = xor (Wm.xs F k) (C k && f (i - k)) := by
              show xor (Wm.xs F k) (F k) = _
              rw [unhide HF]
            have hx := u8_bits (Wm.xs F k) (C k) (f (i - k))
            rw [← hstep] at hx
            have hs1 : IntKind.i64.wrap ((i : Int) - (k : Int)) = ((i - k : Nat) : Int) := (IntWalk.i64_in _ (by omega)).trans (by omega)
            have h0 : (i - k : Nat) < n := by omega
            have h1 : (k : Int) < (N : Int) := by omega
            have h3 : (k : Int) < ((L + 1 : Nat) : Int) := by omega
            clear hstep HR HMN HMB HST
            obtain ⟨y, hy⟩ : ∃ y, y = Wm.xs F (k + 1) := ⟨_, rfl⟩
            rw [← hy] at hx
            have HY := hide hy
            clear hy
            obtain ⟨z, hz⟩ : ∃ z, z = Wm.xs F k := ⟨_, rfl⟩
            rw [← hz] at hx ⊢
            clear hz
            generalize (f (i - k)) = u at *
            generalize (i - k) = ik at *
            generalize C k = v at *
            go_upto_region 14 with fail
            go_quiet (fail)
            go_wp2
            go_roundw
            case rel => exact ⟨k + 1, by omega, num_eqM (by omega), by rw [← unhide HY], hE.drewN _⟩
            case measure => simp [intOf]; omega
          · obtain rfl : k = L + 1 := by omega
            have HMN := hide ((unhide HMN).keep hE)
            have HMB := hide ((unhide HMB).keep hE)
            have hext := hext.trans hE
            clear hE
            have hdot : Wm.xs F (L + 1) = Wm.dot C f i (L + 1) := by rw [unhide HF]; rfl
            rcases Bool.eq_false_or_eq_true (Wm.dot C f i (L + 1)) with hd | hd
            · rw [hd] at hdot
              rw [hdot]
              have CC := hide (clone_byte (some ⟨gn, 0, none⟩) N N (nats .u8 (bsl C N)) wr (unhide HMN).rowS (nats_one _ _) (by omega) (fun h => by cases h))
              have hgl := (unhide HMN).lt gn rfl
              clear HF hdot
              go_wp2_with fail
              refine (unhide CC).mono ?_
              rintro e w2 ⟨⟨v, rfl, hown⟩, E2⟩
              have MO := (Made.of_own hown).mono hext.size
              obtain ⟨g2, c2, rfl, hg2⟩ := (Made.of_own hown).someS (by omega)
              have hg2n : g2 ≠ gn := by omega
              have hg2w : w.heap.size ≤ g2 := by have := hext.size; omega
              have HMO := hide MO
              have HMN := hide ((unhide HMN).keep E2)
              have HMB := hide ((unhide HMB).keep E2)
              have hext := hext.trans E2
              clear E2 hown MO CC hg2 hgl
              go_wp2
              go_loopw [13] (fun kv wz => ∃ k : Nat, kv = .int .i64 k ∧ k ≤ N ∧ Hid (Made wz w.heap.size 5 1 (.slice (some ⟨gn, 0, none⟩) N N) N (nats .u8 (bsl (part C B g k) N))) ∧
                Hid (Made wz w.heap.size 5 1 (.slice (some ⟨gb, 0, none⟩) N cb) N (nats .u8 (bsl B N))) ∧ Hid (Made wz w.heap.size 5 1 (.slice (some ⟨g2, 0, none⟩) N c2) N (nats .u8 (bsl C N))) ∧ Ext w wz) (fun kv _ => N - (intOf kv).toNat)
              case atStart => exact ⟨0, rfl, Nat.zero_le _, by rw [part_zero]; exact HMN, HMB, HMO, hext⟩
              case round =>
                clear HMN HMB HMO hext
                obtain ⟨k, rfl, hkN, HMN, HMB, HMO, hext⟩ := hrel
                have wk : IntKind.i64.wrap ((k : Int) + (g : Int)) = ((k + g : Nat) : Int) := (IntWalk.i64_in _ (by omega)).trans (by omega)
                by_cases hkg : k + g < N
                · have hcn := (unhide HMN).nat hkg
                  have hcb := (unhide HMB).nat (k := k) (by omega)
                  rw [bsl_get _ hkg, part_at] at hcn
                  rw [bsl_get _ (by omega)] at hcb
                  have hfr := (unhide HMN).frozen (k + g)
                  have hx := u8_xor_nat (C (k + g)).toNat (B k).toNat (by have := bit_lt (C (k + g)); omega) (by have := bit_lt (B k); omega)
                  rw [bit_xor] at hx
                  have HMN1 : Hid (Made (wr.setCell ⟨gn, k + g, none⟩ (.int .u8 (((xor (C (k + g)) (B k)).toNat : Nat) : Int))) w.heap.size 5 1 (.slice (some ⟨gn, 0, none⟩) N N) N (nats .u8 (bsl (part C B g (k + 1)) N))) := hide (by
                    rw [← part_set C B g hkg, ← nats_set]
                    exact (unhide HMN).set (j := k + g) (by omega) _)
                  have HMB1 : Hid (Made (wr.setCell ⟨gn, k + g, none⟩ (.int .u8 (((xor (C (k + g)) (B k)).toNat : Nat) : Int))) w.heap.size 5 1 (.slice (some ⟨gb, 0, none⟩) N cb) N (nats .u8 (bsl B N))) :=
                    hide ((unhide HMB).other (p := ⟨gn, k + g, none⟩) (by simp only [Value.ownBlock, ne_eq, Option.some.injEq]; exact hne) _)
                  have HMO1 : Hid (Made (wr.setCell ⟨gn, k + g, none⟩ (.int .u8 (((xor (C (k + g)) (B k)).toNat : Nat) : Int))) w.heap.size 5 1 (.slice (some ⟨g2, 0, none⟩) N c2) N (nats .u8 (bsl C N))) :=
                    hide ((unhide HMO).other (p := ⟨gn, k + g, none⟩) (by simp only [Value.ownBlock, ne_eq, Option.some.injEq]; exact hg2n) _)
                  have hext1 := hext.setCell (p := ⟨gn, k + g, none⟩) hgn (.int .u8 (((xor (C (k + g)) (B k)).toNat : Nat) : Int))
                  have hkI : (k : Int) < (N : Int) := by omega
                  have hkgI : ((k + g : Nat) : Int) < (N : Int) := by omega
                  have wk1 : IntKind.i64.wrap ((k : Int) + 1) = ((k + 1 : Nat) : Int) := (IntWalk.i64_in _ (by omega)).trans (by omega)
                  clear HMN HMB HMO hext HST HR
                  generalize (xor (C (k + g)) (B k)).toNat = y at *
                  generalize (C (k + g)).toNat = x at *
                  generalize (B k).toNat = z at *
                  obtain ⟨kg, hkgE⟩ : ∃ kg, kg = k + g := ⟨_, rfl⟩
                  have hkgl : kg < N := by omega
                  rw [← hkgE] at wk hcn hfr HMN1 HMB1 HMO1 hext1 hkgI
                  have HKG := hide hkgE
                  clear hkgE hkg
                  go_upto_region 22 with fail
                  go_still_tail 12, (by kernel_rfl)
                  go_wp2
                  go_roundw
                  case rel => exact ⟨k + 1, num_eqM (by omega), by omega, hid_drew HMN1, hid_drew HMB1, hid_drew HMO1, hext1.drew⟩
                  case measure => simp [intOf]; omega
                · have hge : N ≤ k + g := by omega
                  rw [part_all C B g hge] at HMN
                  have hkgI : ¬ ((k + g : Nat) : Int) < (N : Int) := by omega
                  have w3 : IntKind.i64.wrap ((2 : Int) * (L : Int)) = ((2 * L : Nat) : Int) := (IntWalk.i64_in _ (by omega)).trans (by omega)
                  by_cases h2 : i < 2 * L
                  · have HST1 := hide ((unhide HST).same hd h2)
                    have h2I : (i : Int) < ((2 * L : Nat) : Int) := by omega
                    clear HST HR hd hkg HMO
                    go_wp2
                    go_roundw
                    case rel => exact ⟨i + 1, L, g + 1, Wm.fixed C B g, B, gb, cb, by omega, num_eqM (by omega), rfl, num_eqM (by omega), rfl, hne, hgb2, HMN, HMB, HST1, hext⟩
                    case measure => simp [intOf]; omega
                  · have HST1 := hide ((unhide HST).turn hd (by omega))
                    have h2I : ¬ (i : Int) < ((2 * L : Nat) : Int) := by omega
                    have w4 : IntKind.i64.wrap ((i : Int) + 1) = ((i + 1 : Nat) : Int) := (IntWalk.i64_in _ (by omega)).trans (by omega)
                    have w5 : IntKind.i64.wrap (((i + 1 : Nat) : Int) - (L : Int)) = ((i + 1 - L : Nat) : Int) := (IntWalk.i64_in _ (by omega)).trans (by omega)
                    clear HST HR hd hkg HMB
                    go_wp2
                    go_roundw
                    case rel => exact ⟨i + 1, i + 1 - L, 1, Wm.fixed C B g, C, g2, c2, by omega, num_eqM (by omega), num_eqM (by omega), rfl, rfl, hg2n, hg2w, HMN, HMO, HST1, hext⟩
                    case measure => simp [intOf]; omega
            · rw [hd] at hdot
              rw [hdot]
              have HST1 := hide ((unhide HST).keep hd)
              clear HST HF HR
              go_wp2
              go_roundw
              case rel => exact ⟨i + 1, L, g + 1, C, B, gb, cb, by omega, num_eqM (by omega), rfl, num_eqM (by omega), rfl, hne, hgb2, HMN, HMB, HST1, hext⟩
              case measure => simp [intOf]; omega
      · obtain rfl : i = n := by omega
        have w1 : IntKind.i64.wrap ((L : Int) + 1) = ((L + 1 : Nat) : Int) := IntWalk.i64_in _ (by omega)
        have hL1 : ((L + 1 : Nat) : Int) ≤ (N : Int) := by omega
        clear HR
        by_cases hN1 : N = 1
        · obtain rfl : L = 0 := by omega
          obtain rfl : N = 1 := hN1
          have CC := hide (clone_byte (some ⟨gn, 0, none⟩) 0 0 (nats .u8 (bsl (fun k => C (k + 1)) 0)) wr ⟨rfl, fun h => absurd h (by omega)⟩ (nats_one _ _) (by omega) (fun h => by cases h))
          clear HMN HMB
          go_wp2_with fail
          refine (unhide CC).mono ?_
          rintro e w2 ⟨⟨v, rfl, hown⟩, E2⟩
          have MO := (Made.of_own hown).mono hext.size
          have HMO := hide MO
          have hext := hext.trans E2
          clear E2 hown MO CC
          go_wp2
          go_ret2
          exact ⟨⟨C, B, 0, g, v, unhide HST, rfl, unhide HMO⟩, hext⟩
        · have hN1I : ¬ (N : Int) = 1 := by omega
          have CC := hide (clone_byte (some ⟨gn, 1, none⟩) L (N - 1) (nats .u8 (bsl (fun k => C (k + 1)) L)) wr ((unhide HMN).tailS (by omega)) (nats_one _ _) (by omega) (fun h => by cases h))
          clear HMN HMB
          go_wp2_with fail
          refine (unhide CC).mono ?_
          rintro e w2 ⟨⟨v, rfl, hown⟩, E2⟩
          have MO := (Made.of_own hown).mono hext.size
          have HMO := hide MO
          have hext := hext.trans E2
          clear E2 hown MO CC
          go_wp2
          go_ret2
          exact ⟨⟨C, B, L, g, v, unhide HST, rfl, unhide HMO⟩, hext⟩

  · obtain ⟨gn, hgn⟩ : ∃ g, g = w.heap.size + 1 := ⟨_, rfl⟩
    obtain ⟨gb0, hgb0⟩ : ∃ g, g = w.heap.size := ⟨_, rfl⟩
    have hgb : w.heap.size ≤ gn ∧ w.heap.size ≤ gb0 ∧ gb0 ≠ gn := by omega
    have MN : Made ((w.alloc Q).alloc Q).drew w.heap.size 5 1 (.slice (some ⟨gn, 0, none⟩) N N) N (List.replicate N (.int .u8 0)) := by
      rw [hgn]; exact unhide HM1
    have MB : Made ((w.alloc Q).alloc Q).drew w.heap.size 5 1 (.slice (some ⟨gb0, 0, none⟩) N N) N (List.replicate N (.int .u8 0)) := by
      rw [hgb0]; exact unhide HM0
    first | rw [← hgn, ← hgb0] | rw [← hgb0, ← hgn]
    generalize ((w.alloc Q).alloc Q).drew = W at *
    have cn := MN.cell (k := 0) (by omega)
    have fn := MN.frozen 0
    have cb := MB.cell (k := 0) (by omega)
    have fb := MB.frozen 0
    have hne : ¬ gb0 = gn := hgb.2.2
    have hne2 : ¬ gn = gb0 := fun e => hne e.symm
    have MN1 : Made ((W.setCell ⟨gn, 0, none⟩ (.int .u8 1)).setCell ⟨gb0, 0, none⟩ (.int .u8 1)) w.heap.size 5 1 (.slice (some ⟨gn, 0, none⟩) N N) N (nats .u8 (bsl Wm.one N)) := by
      rw [← bsl_one (by omega)]
      exact (MN.set (j := 0) (by omega) _).other (p := ⟨gb0, 0, none⟩) (by simp only [Value.ownBlock, ne_eq, Option.some.injEq]; first | exact hne2 | exact hne) _
    have MB1 : Made ((W.setCell ⟨gn, 0, none⟩ (.int .u8 1)).setCell ⟨gb0, 0, none⟩ (.int .u8 1)) w.heap.size 5 1 (.slice (some ⟨gb0, 0, none⟩) N N) N (nats .u8 (bsl Wm.one N)) := by
      rw [← bsl_one (by omega)]
      exact (MB.other (p := ⟨gn, 0, none⟩) (by simp only [Value.ownBlock, ne_eq, Option.some.injEq]; first | exact hne2 | exact hne) _).set (j := 0) (by omega) _
    have EW1 := ((EW.setCell (p := ⟨gn, 0, none⟩) hgb.1 (.int .u8 1))).setCell (p := ⟨gb0, 0, none⟩) hgb.2.1 (.int .u8 1)
    have HMN := hide MN1
    have HMB := hide MB1
    have HST := hide (Wm.St.start f)
    clear hgn hgb0 HM0 HM1 HQ MN MB MN1 MB1
    go_wp2
    go_loopw [6, 7, 8, 33] (fun bv sv gv i wr => ∃ (k L g : Nat) (C B : Nat → Bool) (gb cb : Nat), k ≤ n ∧ i = .int .i64 k ∧ sv = .int .i64 L ∧ gv = .int .i64 g ∧ bv = .slice (some ⟨gb, 0, none⟩) N cb ∧ gb ≠ gn ∧ w.heap.size ≤ gb ∧
      Hid (Made wr w.heap.size 5 1 (.slice (some ⟨gn, 0, none⟩) N N) N (nats .u8 (bsl C N))) ∧ Hid (Made wr w.heap.size 5 1 (.slice (some ⟨gb, 0, none⟩) N cb) N (nats .u8 (bsl B N))) ∧ Hid (Wm.St f k C L B g) ∧ Ext w wr) (fun _ _ _ i _ => n - (intOf i).toNat)
    case atStart => exact ⟨0, 0, 1, Wm.one, Wm.one, gb0, N, Nat.zero_le _, rfl, rfl, rfl, rfl, hne, hgb.2.1, HMN, HMB, HST, EW1⟩
    case round =>
      clear HMN HMB HST EW1 cn fn cb fb hne hne2 EW
      obtain ⟨i, L, g, C, B, gb, cb, hi, rfl, rfl, rfl, rfl, hne, hgb2, HMN, HMB, HST, hext⟩ := hrel
      have hgn := hgb.1
      clear hgb
      have hLi := (unhide HST).le
      have hg1 := (unhide HST).pos
      have hgi := (unhide HST).gap
      by_cases hlt : i < n
      · obtain ⟨F, hF⟩ : ∃ F, F = fun k => C k && f (i - k) := ⟨_, rfl⟩
        have HF := hide hF
        clear hF
        have w1 : IntKind.i64.wrap ((L : Int) + 1) = ((L + 1 : Nat) : Int) := IntWalk.i64_in _ (by omega)
        have w2 : IntKind.i64.wrap ((g : Int) + 1) = ((g + 1 : Nat) : Int) := IntWalk.i64_in _ (by omega)
        go_wp2
        go_loopw [10, 38] (fun v j wi => ∃ k : Nat, k ≤ L + 1 ∧ j = .int .i64 k ∧ v = .int .u8 (((Wm.xs F k).toNat : Nat) : Int) ∧ Ext wr wi) (fun _ j _ => (L + 1) - (intOf j).toNat)
        case atStart => exact ⟨0, Nat.zero_le _, rfl, rfl, Ext.refl _⟩
        case round =>
          obtain ⟨k, hk, rfl, rfl, hE⟩ := hrel
          by_cases hkL : k < L + 1
          · obtain ⟨b, o, rfl, hb, hc⟩ := ((unhide HR).keep (hext.trans hE)).bit (k := i - k) (by omega)
            have hcn := ((unhide HMN).keep hE).nat (k := k) (by omega)
            rw [bsl_get C (by omega)] at hcn
            have hstep : Wm.xs F (k + 1) = xor (Wm.xs F k) (C k && f (i - k)) := by
              show xor (Wm.xs F k) (F k) = _
              rw [unhide HF]
            have hx := u8_bits (Wm.xs F k) (C k) (f (i - k))
            rw [← hstep] at hx
            have hs1 : IntKind.i64.wrap ((i : Int) - (k : Int)) = ((i - k : Nat) : Int) := (IntWalk.i64_in _ (by omega)).trans (by omega)
            have h0 : (i - k : Nat) < n := by omega
            have h1 : (k : Int) < (N : Int) := by omega
            have h3 : (k : Int) < ((L + 1 : Nat) : Int) := by omega
            clear hstep HR HMN HMB HST
            obtain ⟨y, hy⟩ : ∃ y, y = Wm.xs F (k + 1) := ⟨_, rfl⟩
            rw [← hy] at hx
            have HY := hide hy
            clear hy
            obtain ⟨z, hz⟩ : ∃ z, z = Wm.xs F k := ⟨_, rfl⟩
            rw [← hz] at hx ⊢
            clear hz
            generalize (f (i - k)) = u at *
            generalize (i - k) = ik at *
            generalize C k = v at *
            go_upto_region 14 with fail
            go_quiet (fail)
            go_wp2
            go_roundw
            case rel => exact ⟨k + 1, by omega, num_eqM (by omega), by rw [← unhide HY], hE.drewN _⟩
            case measure => simp [intOf]; omega
          · obtain rfl : k = L + 1 := by omega
            have HMN := hide ((unhide HMN).keep hE)
            have HMB := hide ((unhide HMB).keep hE)
            have hext := hext.trans hE
            clear hE
            have hdot : Wm.xs F (L + 1) = Wm.dot C f i (L + 1) := by rw [unhide HF]; rfl
            rcases Bool.eq_false_or_eq_true (Wm.dot C f i (L + 1)) with hd | hd
            · rw [hd] at hdot
              rw [hdot]
              have CC := hide (clone_byte (some ⟨gn, 0, none⟩) N N (nats .u8 (bsl C N)) wr (unhide HMN).rowS (nats_one _ _) (by omega) (fun h => by cases h))
              have hgl := (unhide HMN).lt gn rfl
              clear HF hdot
              go_wp2_with fail
              refine (unhide CC).mono ?_
              rintro e w2 ⟨⟨v, rfl, hown⟩, E2⟩
              have MO := (Made.of_own hown).mono hext.size
              obtain ⟨g2, c2, rfl, hg2⟩ := (Made.of_own hown).someS (by omega)
              have hg2n : g2 ≠ gn := by omega
              have hg2w : w.heap.size ≤ g2 := by have := hext.size; omega
              have HMO := hide MO
              have HMN := hide ((unhide HMN).keep E2)
              have HMB := hide ((unhide HMB).keep E2)
              have hext := hext.trans E2
              clear E2 hown MO CC hg2 hgl
              go_wp2
              go_loopw [13] (fun kv wz => ∃ k : Nat, kv = .int .i64 k ∧ k ≤ N ∧ Hid (Made wz w.heap.size 5 1 (.slice (some ⟨gn, 0, none⟩) N N) N (nats .u8 (bsl (part C B g k) N))) ∧
                Hid (Made wz w.heap.size 5 1 (.slice (some ⟨gb, 0, none⟩) N cb) N (nats .u8 (bsl B N))) ∧ Hid (Made wz w.heap.size 5 1 (.slice (some ⟨g2, 0, none⟩) N c2) N (nats .u8 (bsl C N))) ∧ Ext w wz) (fun kv _ => N - (intOf kv).toNat)
              case atStart => exact ⟨0, rfl, Nat.zero_le _, by rw [part_zero]; exact HMN, HMB, HMO, hext⟩
              case round =>
                clear HMN HMB HMO hext
                obtain ⟨k, rfl, hkN, HMN, HMB, HMO, hext⟩ := hrel
                have wk : IntKind.i64.wrap ((k : Int) + (g : Int)) = ((k + g : Nat) : Int) := (IntWalk.i64_in _ (by omega)).trans (by omega)
                by_cases hkg : k + g < N
                · have hcn := (unhide HMN).nat hkg
                  have hcb := (unhide HMB).nat (k := k) (by omega)
                  rw [bsl_get _ hkg, part_at] at hcn
                  rw [bsl_get _ (by omega)] at hcb
                  have hfr := (unhide HMN).frozen (k + g)
                  have hx := u8_xor_nat (C (k + g)).toNat (B k).toNat (by have := bit_lt (C (k + g)); omega) (by have := bit_lt (B k); omega)
                  rw [bit_xor] at hx
                  have HMN1 : Hid (Made (wr.setCell ⟨gn, k + g, none⟩ (.int .u8 (((xor (C (k + g)) (B k)).toNat : Nat) : Int))) w.heap.size 5 1 (.slice (some ⟨gn, 0, none⟩) N N) N (nats .u8 (bsl (part C B g (k + 1)) N))) := hide (by
                    rw [← part_set C B g hkg, ← nats_set]
                    exact (unhide HMN).set (j := k + g) (by omega) _)
                  have HMB1 : Hid (Made (wr.setCell ⟨gn, k + g, none⟩ (.int .u8 (((xor (C (k + g)) (B k)).toNat : Nat) : Int))) w.heap.size 5 1 (.slice (some ⟨gb, 0, none⟩) N cb) N (nats .u8 (bsl B N))) :=
                    hide ((unhide HMB).other (p := ⟨gn, k + g, none⟩) (by simp only [Value.ownBlock, ne_eq, Option.some.injEq]; exact hne) _)
                  have HMO1 : Hid (Made (wr.setCell ⟨gn, k + g, none⟩ (.int .u8 (((xor (C (k + g)) (B k)).toNat : Nat) : Int))) w.heap.size 5 1 (.slice (some ⟨g2, 0, none⟩) N c2) N (nats .u8 (bsl C N))) :=
                    hide ((unhide HMO).other (p := ⟨gn, k + g, none⟩) (by simp only [Value.ownBlock, ne_eq, Option.some.injEq]; exact hg2n) _)
                  have hext1 := hext.setCell (p := ⟨gn, k + g, none⟩) hgn (.int .u8 (((xor (C (k + g)) (B k)).toNat : Nat) : Int))
                  have hkI : (k : Int) < (N : Int) := by omega
                  have hkgI : ((k + g : Nat) : Int) < (N : Int) := by omega
                  have wk1 : IntKind.i64.wrap ((k : Int) + 1) = ((k + 1 : Nat) : Int) := (IntWalk.i64_in _ (by omega)).trans (by omega)
                  clear HMN HMB HMO hext HST HR
                  generalize (xor (C (k + g)) (B k)).toNat = y at *
                  generalize (C (k + g)).toNat = x at *
                  generalize (B k).toNat = z at *
                  obtain ⟨kg, hkgE⟩ : ∃ kg, kg = k + g := ⟨_, rfl⟩
                  have hkgl : kg < N := by omega
                  rw [← hkgE] at wk hcn hfr HMN1 HMB1 HMO1 hext1 hkgI
                  have HKG := hide hkgE
                  clear hkgE hkg
                  go_upto_region 22 with fail
                  go_still_tail 12, (by kernel_rfl)
                  go_wp2
                  go_roundw
                  case rel => exact ⟨k + 1, num_eqM (by omega), by omega, hid_drew HMN1, hid_drew HMB1, hid_drew HMO1, hext1.drew⟩
                  case measure => simp [intOf]; omega
                · have hge : N ≤ k + g := by omega
                  rw [part_all C B g hge] at HMN
                  have hkgI : ¬ ((k + g : Nat) : Int) < (N : Int) := by omega
                  have w3 : IntKind.i64.wrap ((2 : Int) * (L : Int)) = ((2 * L : Nat) : Int) := (IntWalk.i64_in _ (by omega)).trans (by omega)
                  by_cases h2 : i < 2 * L
                  · have HST1 := hide ((unhide HST).same hd h2)
                    have h2I : (i : Int) < ((2 * L : Nat) : Int) := by omega
                    clear HST HR hd hkg HMO
                    go_wp2
                    go_roundw
                    case rel => exact ⟨i + 1, L, g + 1, Wm.fixed C B g, B, gb, cb, by omega, num_eqM (by omega), rfl, num_eqM (by omega), rfl, hne, hgb2, HMN, HMB, HST1, hext⟩
                    case measure => simp [intOf]; omega
                  · have HST1 := hide ((unhide HST).turn hd (by omega))
                    have h2I : ¬ (i : Int) < ((2 * L : Nat) : Int) := by omega
                    have w4 : IntKind.i64.wrap ((i : Int) + 1) = ((i + 1 : Nat) : Int) := (IntWalk.i64_in _ (by omega)).trans (by omega)
                    have w5 : IntKind.i64.wrap (((i + 1 : Nat) : Int) - (L : Int)) = ((i + 1 - L : Nat) : Int) := (IntWalk.i64_in _ (by omega)).trans (by omega)
                    clear HST HR hd hkg HMB
                    go_wp2
                    go_roundw
                    case rel => exact ⟨i + 1, i + 1 - L, 1, Wm.fixed C B g, C, g2, c2, by omega, num_eqM (by omega), num_eqM (by omega), rfl, rfl, hg2n, hg2w, HMN, HMO, HST1, hext⟩
                    case measure => simp [intOf]; omega
            · rw [hd] at hdot
              rw [hdot]
              have HST1 := hide ((unhide HST).keep hd)
              clear HST HF HR
              go_wp2
              go_roundw
              case rel => exact ⟨i + 1, L, g + 1, C, B, gb, cb, by omega, num_eqM (by omega), rfl, num_eqM (by omega), rfl, hne, hgb2, HMN, HMB, HST1, hext⟩
              case measure => simp [intOf]; omega
      · obtain rfl : i = n := by omega
        have w1 : IntKind.i64.wrap ((L : Int) + 1) = ((L + 1 : Nat) : Int) := IntWalk.i64_in _ (by omega)
        have hL1 : ((L + 1 : Nat) : Int) ≤ (N : Int) := by omega
        clear HR
        by_cases hN1 : N = 1
        · obtain rfl : L = 0 := by omega
          obtain rfl : N = 1 := hN1
          have CC := hide (clone_byte (some ⟨gn, 0, none⟩) 0 0 (nats .u8 (bsl (fun k => C (k + 1)) 0)) wr ⟨rfl, fun h => absurd h (by omega)⟩ (nats_one _ _) (by omega) (fun h => by cases h))
          clear HMN HMB
          go_wp2_with fail
          refine (unhide CC).mono ?_
          rintro e w2 ⟨⟨v, rfl, hown⟩, E2⟩
          have MO := (Made.of_own hown).mono hext.size
          have HMO := hide MO
          have hext := hext.trans E2
          clear E2 hown MO CC
          go_wp2
          go_ret2
          exact ⟨⟨C, B, 0, g, v, unhide HST, rfl, unhide HMO⟩, hext⟩
        · have hN1I : ¬ (N : Int) = 1 := by omega
          have CC := hide (clone_byte (some ⟨gn, 1, none⟩) L (N - 1) (nats .u8 (bsl (fun k => C (k + 1)) L)) wr ((unhide HMN).tailS (by omega)) (nats_one _ _) (by omega) (fun h => by cases h))
          clear HMN HMB
          go_wp2_with fail
          refine (unhide CC).mono ?_
          rintro e w2 ⟨⟨v, rfl, hown⟩, E2⟩
          have MO := (Made.of_own hown).mono hext.size
          have HMO := hide MO
          have hext := hext.trans E2
          clear E2 hown MO CC
          go_wp2
          go_ret2
          exact ⟨⟨C, B, L, g, v, unhide HST, rfl, unhide HMO⟩, hext⟩

end Go.Proofs.Ytkcmlcomonfoiaa
