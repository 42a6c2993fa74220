/-
  The contract of reed.Mend.
-/
import Derived.Test.YtpenkbhljkmliaaGreatDoorReed3
import Derived.Test.YtpenkbhljkmliaaGreatDoorTri
import Derived.BigRegion
import Derived.Deep.Cut
import Derived.BigQuiet
set_option linter.unusedVariables false
set_option linter.unusedSimpArgs false
namespace Wm
/-- The places that are taken, of the first x: at most k. -/
def pt (H : Nat → Bool) (k x : Nat) : List Nat := (pk H x).take k
theorem pt_length (H : Nat → Bool) (k x : Nat) : (pt H k x).length = min k (cntR H x) := by simp [pt, pk_length]
theorem pt_nodup (H : Nat → Bool) (k x : Nat) : (pt H k x).Nodup := (pk_nodup H x).sublist (List.take_sublist _ _)
theorem pt_mem {H : Nat → Bool} {k x i : Nat} (h : i ∈ pt H k x) : i < x ∧ H i = true := pk_mem x (List.mem_of_mem_take h)
theorem pt_skip {H : Nat → Bool} {k x : Nat} (h : H x = false) : pt H k (x + 1) = pt H k x := by simp [pt, pk, h]
theorem pt_full {H : Nat → Bool} {k x : Nat} (h : k ≤ (pt H k x).length) : pt H k (x + 1) = pt H k x := by
  unfold pt at h ⊢
  simp only [pk]
  split
  · rw [List.take_append_of_le_length (by rw [List.length_take] at h; omega)]
  · rfl
theorem pt_step {H : Nat → Bool} {k x : Nat} (h : H x = true) (hk : (pt H k x).length < k) : pt H k (x + 1) = pt H k x ++ [x] := by
  unfold pt at hk ⊢
  rw [List.length_take] at hk
  simp only [pk, h, if_pos]
  rw [List.take_of_length_le (by simp; omega), List.take_of_length_le (by omega)]
/-- Cells: whether a byte is there, and which. -/
def cH (l : List (Bool × Nat)) (i : Nat) : Bool := (l.getD i (false, 0)).1
def cB (l : List (Bool × Nat)) (i : Nat) : Nat := (l.getD i (false, 0)).2
def mendL (l : List (Bool × Nat)) (k : Nat) : List Nat := rowL (pt (cH l) k l.length) ((pt (cH l) k l.length).map (cB l)) l.length
/-- Does one of the first x say otherwise? -/
def mendN (l : List (Bool × Nat)) (k : Nat) : Nat → Bool
  | 0 => false
  | x + 1 => mendN l k x || (cH l x && decide (cB l x ≠ (mendL l k).getD x 0))
theorem mendN_no {l : List (Bool × Nat)} {k : Nat} : ∀ {x : Nat}, mendN l k x = false → ∀ i, i < x → cH l i = true → cB l i = (mendL l k).getD i 0
  | 0, _, i, hi, _ => by omega
  | x + 1, h, i, hi, hc => by
    simp only [mendN, Bool.or_eq_false_iff] at h
    by_cases e : i = x
    · subst e
      have := h.2
      rw [hc] at this
      simpa using this
    · exact mendN_no h.1 i (by omega) hc
theorem mendN_of {l : List (Bool × Nat)} {k : Nat} : ∀ {x : Nat}, (∀ i, i < x → cH l i = true → cB l i = (mendL l k).getD i 0) → mendN l k x = false
  | 0, _ => rfl
  | x + 1, h => by
    simp only [mendN]
    rw [mendN_of fun i hi => h i (by omega)]
    cases e : cH l x with
    | false => rfl
    | true => simp [h x (by omega) e]
theorem mendN_mono {l : List (Bool × Nat)} {k : Nat} : ∀ {n x : Nat}, x ≤ n → mendN l k x = true → mendN l k n = true
  | 0, x, h, hx => by obtain rfl : x = 0 := by omega
                      exact hx
  | n + 1, x, h, hx => by
    by_cases e : x = n + 1
    · subst e; exact hx
    · simp only [mendN, Bool.or_eq_true]; exact .inl (mendN_mono (by omega) hx)
end Wm
namespace Go.Proofs.YtpenkbhljkmliaaGreatDoor
open Go.RowKit Go.BigFrame

/-- Cells in memory: two values each. -/
def cls : List (Bool × Nat) → List Value
  | [] => []
  | p :: l => .bool p.1 :: .int .u8 ((p.2 : Nat) : Int) :: cls l
theorem cls_length : ∀ l : List (Bool × Nat), (cls l).length = l.length * 2
  | [] => rfl
  | p :: l => by simp only [cls, List.length_cons, cls_length l]; omega
theorem cls_append : ∀ l m : List (Bool × Nat), cls l ++ cls m = cls (l ++ m)
  | [], _ => rfl
  | p :: l, m => by simp only [cls, List.cons_append, cls_append l m]
theorem cls_get : ∀ (l : List (Bool × Nat)) (k : Nat), k < l.length → (cls l)[k * 2]? = some (.bool (l.getD k (false, 0)).1) ∧ (cls l)[k * 2 + 1]? = some (.int .u8 (((l.getD k (false, 0)).2 : Nat) : Int))
  | [], k, h => by simp at h
  | p :: l, 0, _ => by simp [cls]
  | p :: l, k + 1, h => by
    have := cls_get l k (by simpa using h)
    rw [show (k + 1) * 2 = k * 2 + 1 + 1 by omega]
    simpa [cls] using this
theorem Row.cln {w : World} {A : Option Addr} {n : Nat} {l : List (Bool × Nat)} (h : Row w A n 2 (cls l)) : l.length = n := by have := h.1; rw [cls_length] at this; omega
theorem Row.cl {w : World} {A : Option Addr} {n k : Nat} {l : List (Bool × Nat)} (h : Row w A n 2 (cls l)) (hk : k < n) : ∃ b o, A = some ⟨b, o, none⟩ ∧ b < w.heap.size ∧
    w.cell? ⟨b, o + k * 2, none⟩ = some (.bool (Wm.cH l k)) ∧ w.cell? ⟨b, o + k * 2 + 1, none⟩ = some (.int .u8 ((Wm.cB l k : Nat) : Int)) := by
  obtain ⟨b, o, hA, hb, hc⟩ := h.2 (by omega)
  have := cls_get l k (by have := h.cln; omega)
  exact ⟨b, o, hA, hb, (hc (k * 2) (by omega)).trans this.1, by rw [Nat.add_assoc]; exact (hc (k * 2 + 1) (by omega)).trans this.2⟩

/-- What Mend answers. -/
def MendOut (w w' : World) (l : List (Bool × Nat)) (k n : Nat) (e : Ending) : Prop :=
  (Wm.cntR (Wm.cH l) n < k ∧ e = .returned (.tuple #[.slice none 0 0, .int .i64 9])) ∨
  (k ≤ Wm.cntR (Wm.cH l) n ∧ Wm.mendN l k n = true ∧ e = .returned (.tuple #[.slice none 0 0, .int .i64 8])) ∨
  (k ≤ Wm.cntR (Wm.cH l) n ∧ Wm.mendN l k n = false ∧ ∃ v, e = .returned (.tuple #[v, .int .i64 0]) ∧ Made w' w.heap.size 5 1 v n (nats .u8 (Wm.mendL l k)))

set_option maxRecDepth 100000 in
set_option maxHeartbeats 8000000 in
theorem RMend_ok (A : Option Addr) (k c n : Nat) (l : List (Bool × Nat)) (w : World) (R : Row w A n 2 (cls l)) (h8 : ∀ i, Wm.cB l i < 256) (h1 : 1 ≤ k) (hkn : k ≤ n) (hn : n ≤ 20) :
    Calls Tryz.prog 120 #[.slice A n c, .int .i64 k] w fun e w' => MendOut w w' l k n e ∧ Ext w w' := by
  have HR := hide R
  have hlen := hide R.cln
  clear R
  have CC := hide (RCheck_ok A n c (k : Int) w)
  have he : recErr n (k : Int) = 0 := by unfold recErr; rw [if_neg (by omega), if_neg (by omega)]
  rw [he] at CC
  have H8 := hide h8
  clear he h8
  go_enter Tryz.func120, Tryz.ntmps120
  go_wp2_with fail
  refine (unhide CC).mono ?_
  rintro e w ⟨rfl, rfl⟩
  go_wp2
  go_loopw [7, 8, 22] (fun v1 v2 i wr => ∃ x : Nat, x ≤ n ∧ i = .int .i64 x ∧ Hid (Duo w wr 3 v1 (Wm.pt (Wm.cH l) k x).length (nats .i64 (Wm.pt (Wm.cH l) k x)) 5 v2 (Wm.pt (Wm.cH l) k x).length (nats .u8 ((Wm.pt (Wm.cH l) k x).map (Wm.cB l))))) (fun _ _ i _ => n - (intOf i).toNat)
  case atStart => exact ⟨0, Nat.zero_le _, rfl, hide (by simpa [Wm.pt, Wm.pk, nats] using Duo.nil (Ext.refl w))⟩
  case round =>
    obtain ⟨x, hx, rfl, HD⟩ := hrel
    obtain ⟨m, hm⟩ : ∃ m, m = (Wm.pt (Wm.cH l) k x).length := ⟨_, rfl⟩
    obtain ⟨A1, cap1, rfl, R1, -, -, -⟩ := row_of_own (unhide HD).a
    obtain ⟨A2, cap2, rfl, R2, -, -, -⟩ := row_of_own (unhide HD).b
    have HM := hide hm
    rw [← hm] at HD R1 R2 ⊢
    have HR1 := hide R1
    have HR2 := hide R2
    clear hm R1 R2
    by_cases hlt : x < n
    · obtain ⟨b, o, rfl, hbl, hc1, hc2⟩ := ((unhide HR).keep (unhide HD).ext).cl hlt
      obtain ⟨h, hh⟩ : ∃ h, h = Wm.cH l x := ⟨_, rfl⟩
      obtain ⟨y, hy⟩ : ∃ h, h = Wm.cB l x := ⟨_, rfl⟩
      rw [← hh] at hc1
      rw [← hy] at hc2
      have HH := hide hh
      have HY := hide hy
      clear hh hy HR1 HR2
      cases h with
      | false =>
        go_wp2
        go_roundw
        case rel =>
          refine ⟨x + 1, by omega, num_eqR (by omega), ?_⟩
          rw [Wm.pt_skip (unhide HH).symm, ← unhide HM]
          exact hide ((unhide HD).alloc _)
        case measure => simp [intOf]; omega
      | true =>
        by_cases hmk : m < k
        · have hb1 : (m + 1) * 8 ≤ 140737488355328 ∧ m + 1 ≤ 9223372036854775807 := by omega
          have hb2 : (m + 1) * 1 ≤ 140737488355328 ∧ m + 1 ≤ 9223372036854775807 := by omega
          have hn1 : ∀ k, (Value.slice A1 m cap1).ownBlock = some k → k ≠ wr.heap.size := fun k hk => by have := ((unhide HD).a.lt k hk).2; omega
          have hn2 : ∀ k, (Value.slice A2 m cap2).ownBlock = some k → k ≠ wr.heap.size := fun k hk => by have := ((unhide HD).b.lt k hk).2; omega
          obtain ⟨W, hW⟩ : ∃ W, W = wr.alloc (Obj.cells #[Value.bool true, Value.int IntKind.u8 (y : Int)] 183) := ⟨_, rfl⟩
          have hcW : W.cell? ⟨wr.heap.size, 1, none⟩ = some (.int .u8 (y : Int)) := by rw [hW]; simp
          have hDW := (unhide HD).alloc (Obj.cells #[Value.bool true, Value.int IntKind.u8 (y : Int)] 183)
          rw [← hW] at hDW
          have hl1 : ∀ k, (Value.slice A1 m cap1).ownBlock = some k → k < W.heap.size := fun k hk => (hDW.a.lt k hk).2
          have HDW := hide hDW
          clear hDW
          go_wp2
          rw [← hW]
          clear hW
          go_region_held3 (fun w' => w'.cell? ⟨wr.heap.size, 1, none⟩ = some (.int .u8 (y : Int))) (go_keep)
            (first
              | (refine step_duoA (u := .int .i64 (x : Int)) (W0 := w) (e1 := 3) (v1 := .slice A1 m cap1) (n1 := m) (xs1 := nats .i64 (Wm.pt (Wm.cH l) k x)) (e2 := 5) (v2 := .slice A2 m cap2) (n2 := m) (xs2 := nats .u8 ((Wm.pt (Wm.cH l) k x).map (Wm.cB l))) rfl (.tmp 35) (.tmp 37) 61 rfl intR ?d rfl rfl ?hc rfl hb1 ?_
                 case d => repeat (first | exact unhide HDW | refine Duo.alloc ?_ _ | refine Duo.drew ?_)
                 case hc => simp
                 intro v' w' D' hgA
                 have kc1 := hgA.cell (a := ⟨wr.heap.size, 1, none⟩) (v := .int .u8 (y : Int)) (by simp [*]) (fun e => by exact hn1 _ e.symm rfl))
              | (refine step_duoB (u := .int .u8 (y : Int)) (W0 := w) (e1 := 3) (v1 := v') (n1 := m + 1) (xs1 := nats .i64 (Wm.pt (Wm.cH l) k x) ++ [.int .i64 (x : Int)]) (e2 := 5) (v2 := .slice A2 m cap2) (n2 := m) (xs2 := nats .u8 ((Wm.pt (Wm.cH l) k x).map (Wm.cB l))) rfl (.tmp 39) (.tmp 42) 106 rfl byteR ?d rfl rfl ?hc rfl hb2 ?_
                 case d => repeat (first | exact D' | refine Duo.alloc ?_ _ | refine Duo.drew ?_)
                 case hc => first
                   | simp
                   | (refine hgA.cell (by simp) (fun e => absurd (hl1 _ e.symm) (by first | (simp; done) | (simp; omega))))
                 intro v'' w'' D'' hgB
                 have kc2 := hgB.cell (a := ⟨wr.heap.size, 1, none⟩) (v := .int .u8 (y : Int)) (by simp [*]) (fun e => by exact hn2 _ e.symm rfl)))
          all_goals
            go_wp2
            go_roundw
            case rel =>
              refine ⟨x + 1, by omega, num_eqR (by omega), ?_⟩
              rw [Wm.pt_step (unhide HH).symm (by rw [← unhide HM]; exact hmk), List.length_append, ← unhide HM, List.map_append, ← nats_append, ← nats_append]
              have hz : nats .u8 (List.map (Wm.cB l) [x]) = [.int .u8 (y : Int)] := by rw [unhide HY]; rfl
              rw [hz]
              exact hide D''
            case measure => simp [intOf]; omega
        · go_wp2
          go_roundw
          case rel =>
            refine ⟨x + 1, by omega, num_eqR (by omega), ?_⟩
            rw [Wm.pt_full (by rw [← unhide HM]; omega), ← unhide HM]
            exact hide ((unhide HD).alloc _)
          case measure => simp [intOf]; omega
    · obtain rfl : x = n := by omega
      have hmm : m = min k (Wm.cntR (Wm.cH l) x) := by rw [unhide HM, Wm.pt_length]
      have HE := hide (unhide HD).ext
      by_cases hmk : m < k
      · have HC := hide (show Wm.cntR (Wm.cH l) x < k by omega)
        clear hmm
        go_wp2
        go_ret2
        exact ⟨.inl ⟨unhide HC, rfl⟩, unhide HE⟩
      · have HC := hide (show k ≤ Wm.cntR (Wm.cH l) x by omega)
        obtain rfl : m = k := by omega
        clear hmm HD
        have CR := hide (Row_ok A1 A2 m cap1 cap2 x (Wm.pt (Wm.cH l) m x) ((Wm.pt (Wm.cH l) m x).map (Wm.cB l)) wr (unhide HR1) (unhide HR2) (by omega) hn (fun y hy => by have := (Wm.pt_mem hy).1; omega) (Wm.pt_nodup _ _ _) (Wm.B256.of fun y hy => by
          obtain ⟨i, -, rfl⟩ := List.mem_map.1 hy
          exact unhide H8 i))
        have hml : Wm.rowL (Wm.pt (Wm.cH l) m x) ((Wm.pt (Wm.cH l) m x).map (Wm.cB l)) x = Wm.mendL l m := by unfold Wm.mendL; rw [unhide hlen]
        rw [hml] at CR
        clear hml HR1 HR2
        have HRw := hide ((unhide HR).keep (unhide HE))
        go_wp2_with fail
        refine (unhide CR).mono ?_
        rintro e w2 ⟨⟨v, rfl, M⟩, E2⟩
        have HE2 := hide ((unhide HE).trans E2)
        have HM2 := hide (M.mono (base' := w.heap.size) (unhide HE).size)
        have HR2 := hide ((unhide HRw).keep E2)
        obtain ⟨B, cb, rfl, RB, -, -, -⟩ := M.open_
        have HRB := hide RB
        clear M E2 HE HRw CR RB
        go_wp2
        go_loopw [56] (fun i wz => ∃ t : Nat, t ≤ x ∧ i = .int .i64 t ∧ Wm.mendN l m t = false ∧ Ext w2 wz) (fun i _ => x - (intOf i).toNat)
        case atStart => exact ⟨0, Nat.zero_le _, rfl, rfl, Ext.refl w2⟩
        case round =>
          obtain ⟨t, ht, rfl, HN, hext⟩ := hrel
          have HEW := hide ((unhide HE2).trans hext)
          have HMW := hide ((unhide HM2).keep hext)
          have HNN := hide HN
          clear HN
          by_cases htx : t < x
          · obtain ⟨b, o, rfl, hbl, hc1, hc2⟩ := ((unhide HR2).keep hext).cl htx
            obtain ⟨b3, o3, rfl, hbl3, hc3⟩ := ((unhide HRB).keep hext).nat htx
            obtain ⟨h, hh⟩ : ∃ h, h = Wm.cH l t := ⟨_, rfl⟩
            obtain ⟨y, hy⟩ : ∃ h, h = Wm.cB l t := ⟨_, rfl⟩
            obtain ⟨z, hz⟩ : ∃ h, h = (Wm.mendL l m).getD t 0 := ⟨_, rfl⟩
            rw [← hh] at hc1
            rw [← hy] at hc2
            rw [← hz] at hc3
            have HH := hide hh
            have HY := hide hy
            have HZ := hide hz
            have HX := hide hext
            clear hh hy hz hext
            cases h with
            | false =>
              go_upto_region 18 with fail
              go_quiet (fail)
              go_wp2
              go_roundw
              case rel =>
                have HX2 := unhide HX
                refine ⟨t + 1, by omega, num_eqR (by omega), ?_, (by repeat (first | exact HX2 | refine Ext.alloc ?_ _ | refine Ext.drew ?_ | refine Ext.drewN ?_ _ | (refine Ext.trans ?_ (plus_ext _ _)) | (refine Ext.setCell ?_ (by have := Ext.size HX2; simp; omega) _)))⟩
                simp only [Wm.mendN, unhide HNN, ← unhide HH]
                rfl
              case measure => simp [intOf]; omega
            | true =>
              by_cases hyz : y = z
              · subst hyz
                go_upto_region 18 with fail
                go_quiet (fail)
                go_wp2
                go_roundw
                case rel =>
                  have HX2 := unhide HX
                  refine ⟨t + 1, by omega, num_eqR (by omega), ?_, (by repeat (first | exact HX2 | refine Ext.alloc ?_ _ | refine Ext.drew ?_ | refine Ext.drewN ?_ _ | (refine Ext.trans ?_ (plus_ext _ _)) | (refine Ext.setCell ?_ (by have := Ext.size HX2; simp; omega) _)))⟩
                  simp only [Wm.mendN, unhide HNN, ← unhide HH, ← unhide HY, ← unhide HZ]
                  simp
                case measure => simp [intOf]; omega
              · have hne : ((y : Int) != (z : Int)) = true := by rw [bne_iff_ne]; omega
                have HBAD := hide (show Wm.mendN l m x = true from Wm.mendN_mono (x := t + 1) (by omega) (by
                  simp only [Wm.mendN, unhide HNN, ← unhide HH, ← unhide HY, ← unhide HZ]
                  simp [hyz]))
                go_upto_region 18 with fail
                go_quiet (fail)
                go_wp2
                go_ret2
                have HX2 := unhide HEW
                exact ⟨.inr (.inl ⟨unhide HC, unhide HBAD, rfl⟩), (by repeat (first | exact HX2 | refine Ext.alloc ?_ _ | refine Ext.drew ?_ | refine Ext.drewN ?_ _ | (refine Ext.trans ?_ (plus_ext _ _)) | (refine Ext.setCell ?_ (by have := Ext.size HX2; simp; omega) _)))⟩
          · obtain rfl : t = x := by omega
            go_wp2
            go_ret2
            exact ⟨.inr (.inr ⟨unhide HC, unhide HNN, _, rfl, unhide HMW⟩), unhide HEW⟩
end Go.Proofs.YtpenkbhljkmliaaGreatDoor
