import Derived.Test.YtkebldjepdhioaaField1
import Derived.Test.YtkebldjepdhioaaStrs
import Derived.Test.YtkebldjepdhioaaMake
import Derived.Test.YtkebldjepdhioaaApp
import Derived.Test.YtkebldjepdhioaaArith1
import Derived.Test.YtkebldjepdhioaaTri
import Derived.BigRegion
import Derived.Deep.Cut
import Derived.Deep.CutRange
import Derived.Test.YtkebldjepdhioaaBits1
import Derived.Deep.RegionHeld3
import Derived.Deep.RegionLaw
import Derived.StillTailTactics
import Derived.Laws.BytesArg
import Derived.Laws.IdiomStrings
/-
  Parities of blocks: plain, and the contracts of the small functions of the package pair.
-/
set_option linter.unusedVariables false
set_option linter.unusedSimpArgs false
namespace Go.Proofs.Ytkebldjepdhioaa
open Go.RowKit Go.BigFrame

theorem num_eqP {K : IntKind} {a b : Int} (h : a = b) : Value.int K a = Value.int K b := by rw [h]
/-- A byte of a string. -/
def byt (s : ByteArray) (k : Nat) : Nat := (s.data.getD k 0).toNat
theorem byt_lt (s : ByteArray) (k : Nat) : byt s k < 256 := UInt8.toNat_lt _
theorem byt_get (s : ByteArray) (k : Nat) (h : k < s.size) : (s[k]'h).toNat = byt s k := by
  unfold byt
  rw [Array.getD_eq_getD_getElem?, Array.getElem?_eq_getElem (by simpa using h)]; rfl
/-- The parities at place k, over the first i blocks, but for the lost ones. -/
def pc (L : List ByteArray) (lost : List Int) (k : Nat) : Nat → Nat
  | 0 => 0
  | i + 1 => if (i : Int) ∈ lost then pc L lost k i else pc L lost k i ^^^ byt (L.getD i ByteArray.empty) k
def qc (L : List ByteArray) (lost : List Int) (k : Nat) : Nat → Nat
  | 0 => 0
  | i + 1 => if (i : Int) ∈ lost then qc L lost k i else qc L lost k i ^^^ Wm.fmul (byt (L.getD i ByteArray.empty) k) (Wm.fpow 2 i)
theorem pc_lt (L : List ByteArray) (lost : List Int) (k : Nat) : ∀ i, pc L lost k i < 256
  | 0 => by show 0 < 256; omega
  | i + 1 => by
    simp only [pc]
    split
    · exact pc_lt L lost k i
    · exact Wm.xor_lt (pc_lt L lost k i) (byt_lt _ _)
theorem qc_lt (L : List ByteArray) (lost : List Int) (k : Nat) : ∀ i, qc L lost k i < 256
  | 0 => by show 0 < 256; omega
  | i + 1 => by
    simp only [qc]
    split
    · exact qc_lt L lost k i
    · exact Wm.xor_lt (qc_lt L lost k i) (Wm.fmul_lt (byt_lt _ _) (Wm.fpow_lt (by omega) _))

set_option maxRecDepth 100000 in
theorem index_nil (x : Int) (w : World) : Calls Try.prog 60 #[.slice none 0 0, .int .i64 x] w fun e w' => e = .returned (.int .i64 (-1)) ∧ w' = w := by
  go_enter Try.func60, Try.ntmps60
  go_wp2
  go_loopw [8] (fun i wr => i = .int .i64 0 ∧ wr = w) (fun _ _ => 0)
  case atStart => exact ⟨rfl, rfl⟩
  case round =>
    obtain ⟨rfl, rfl⟩ := hrel
    go_wp2
    go_ret
    exact ⟨rfl, rfl⟩
set_option maxRecDepth 100000 in
theorem index_int (A : Option Addr) (n c : Nat) (l : List Int) (x : Int) (w : World) (R : Row w A n 1 (ints l)) (hn : n ≤ 1000) :
    Calls Try.prog 60 #[.slice A n c, .int .i64 x] w fun e w' => (∃ r : Int, e = .returned (.int .i64 r) ∧ decide (0 ≤ r) = decide (x ∈ l)) ∧ w' = w := by
  have hlen := R.num
  go_enter Try.func60, Try.ntmps60
  go_wp2
  go_loopw [8] (fun i wr => ∃ k : Nat, k ≤ n ∧ i = .int .i64 k ∧ Hid (∀ j, j < k → l.getD j 0 ≠ x) ∧ wr = w) (fun i _ => n - (intOf i).toNat)
  case atStart => exact ⟨0, Nat.zero_le _, rfl, hide (fun j h => by omega), rfl⟩
  case round =>
    obtain ⟨k, hk, rfl, hz, rfl⟩ := hrel
    by_cases hlt : k < n
    · obtain ⟨b, o, rfl, hb, hc⟩ := R.int hlt
      have hmem := getD_mem l 0 (show k < l.length by omega)
      by_cases he : l.getD k 0 = x
      · rw [he] at hc hmem
        have HM := hide hmem
        clear hmem he R hlen hz
        have hxx : (x == x) = true := by simp
        go_wp2
        go_ret
        exact ⟨⟨k, rfl, by rw [decide_eq_true (unhide HM)]; exact decide_eq_true (by omega)⟩, rfl⟩
      · have hz2 : ∀ j, j < k + 1 → l.getD j 0 ≠ x := fun j hj => by
          by_cases h : j < k
          · exact unhide hz j h
          · obtain rfl : j = k := by omega
            exact he
        have HZ := hide hz2
        have hxx : (x == l.getD k 0) = false := by rw [beq_eq_false_iff_ne]; exact fun e => he e.symm
        have hxx' : ¬ x = l.getD k 0 := fun e => he e.symm
        generalize l.getD k 0 = y at *
        clear R hlen hz hz2 hmem he
        go_wp2
        go_roundw
        case rel => exact ⟨k + 1, by omega, num_eqP (by omega), HZ, by first | rfl | trivial⟩
        case measure => simp [intOf]; omega
    · obtain rfl : k = n := by omega
      have hno : x ∉ l := fun h => by
        obtain ⟨j, hj, e⟩ := List.getElem_of_mem h
        refine unhide hz j (by omega) ?_
        rw [List.getD_eq_getElem?_getD, List.getElem?_eq_getElem hj]
        exact e
      have HN := hide hno
      clear R hlen hz hno
      go_wp2
      go_ret
      exact ⟨⟨-1, rfl, by rw [decide_eq_false (unhide HN)]; rfl⟩, rfl⟩
theorem contains_int (A : Option Addr) (n c : Nat) (l : List Int) (x : Int) (w : World) (R : Row w A n 1 (ints l)) (hn : n ≤ 1000) :
    Calls Try.prog 55 #[.slice A n c, .int .i64 x] w fun e w' => e = .returned (.bool (decide (x ∈ l))) ∧ w' = w := by
  have C := hide (index_int A n c l x w R hn)
  clear R hn
  go_enter Try.func55, Try.ntmps55
  go_wp2_with fail
  refine (unhide C).mono ?_
  rintro e w' ⟨⟨r, rfl, hr⟩, rfl⟩
  have HR := hide hr
  clear hr
  go_wp2
  go_ret
  exact ⟨ret_boolv (unhide HR), rfl⟩

theorem weight_ok (i : Nat) (hi : i ≤ 1000) (w : World) : Calls Try.prog 37 #[.int .i64 i] w fun e w' => e = .returned (.int .u8 (Wm.fpow 2 i)) ∧ w' = w := by
  have C := hide (fun w : World => fpow_any 2 i (by omega) (by omega) w)
  generalize Wm.fpow 2 i = x at *
  go_enter Try.func37, Try.ntmps37
  go_wp2_with fail
  refine (unhide C _).mono ?_
  rintro e w' ⟨rfl, rfl⟩
  go_wp2
  go_ret
  exact ⟨rfl, rfl⟩

/-- What check tells. -/
def okB (L : List ByteArray) : Prop := 1 ≤ L.length ∧ L.length ≤ 10 ∧ ∀ s ∈ L, s.size ≤ 64 ∧ s.size = (L.getD 0 ByteArray.empty).size
set_option maxRecDepth 100000 in
set_option maxHeartbeats 1000000 in
theorem pcheck_any (A : Option Addr) (n c : Nat) (L : List ByteArray) (w : World) (R : Row w A n 1 (strs L)) (hn : n ≤ 9223372036854775807) (hs : ∀ s ∈ L, (s.size : Int) ≤ 9223372036854775807) :
    Calls Try.prog 34 #[.slice A n c] w fun e w' => (∃ r : Int, e = .returned (.int .i64 r) ∧ ((okB L ∧ r = 0) ∨ (¬ okB L ∧ r ≠ 0))) ∧ w' = w := by
  have hlen := R.strN
  by_cases h1 : n < 1
  · have hno : ¬ okB L := fun h => by have := h.1; omega
    obtain rfl : n = 0 := by omega
    have HN := hide hno
    clear R hlen hs hno
    go_enter Try.func34, Try.ntmps34
    go_wp2
    go_ret
    exact ⟨⟨2, rfl, .inr ⟨unhide HN, by omega⟩⟩, rfl⟩
  · by_cases h2 : 10 < n
    · have hno : ¬ okB L := fun h => by have := h.2.1; omega
      have h1I : ¬ (n : Int) < 1 := by omega
      have h2I : (10 : Int) < (n : Int) := by omega
      have HN := hide hno
      clear R hlen hs hno hn h1 h2
      go_enter Try.func34, Try.ntmps34
      go_wp2
      go_ret
      exact ⟨⟨2, rfl, .inr ⟨unhide HN, by omega⟩⟩, rfl⟩
    · have h1I : ¬ (n : Int) < 1 := by omega
      have h2I : ¬ (10 : Int) < (n : Int) := by omega
      have hd1 : decide ((n : Int) < 1) = false := decide_eq_false h1I
      have hd2 : decide ((10 : Int) < (n : Int)) = false := decide_eq_false h2I
      obtain ⟨b, o, rfl, hb, hc0⟩ := R.str (k := 0) (by omega)
      have HS := hide hs
      clear hs hn
      obtain ⟨s0, hs0⟩ : ∃ s0, s0 = L.getD 0 ByteArray.empty := ⟨_, rfl⟩
      rw [← hs0, Nat.add_zero] at hc0
      have HOK : Hid (∀ (_ : ∀ j, j < n → (L.getD j ByteArray.empty).size ≤ 64 ∧ (L.getD j ByteArray.empty).size = s0.size), okB L) := hide fun h => ⟨by omega, by omega, fun s hs => by
        obtain ⟨j, hj, e⟩ := List.getElem_of_mem hs
        have := h j (by omega)
        rw [List.getD_eq_getElem?_getD, List.getElem?_eq_getElem hj] at this
        rw [← hs0, ← e]
        exact this⟩
      have HNO : Hid (∀ k, k < n → ((64 < (L.getD k ByteArray.empty).size) ∨ (L.getD k ByteArray.empty).size ≠ s0.size) → ¬ okB L) := hide fun k hk h hok => by
        have := hok.2.2 _ (getD_mem L ByteArray.empty (show k < L.length by omega))
        rw [← hs0] at this
        omega
      clear hs0
      go_enter Try.func34, Try.ntmps34
      go_wp2
      go_loopw [15] (fun i wr => ∃ k : Nat, k ≤ n ∧ i = .int .i64 k ∧ Hid (∀ j, j < k → (L.getD j ByteArray.empty).size ≤ 64 ∧ (L.getD j ByteArray.empty).size = s0.size) ∧ wr = w) (fun i _ => n - (intOf i).toNat)
      case atStart => exact ⟨0, Nat.zero_le _, rfl, hide (fun j h => by omega), rfl⟩
      case round =>
        obtain ⟨k, hk, rfl, hz, rfl⟩ := hrel
        by_cases hlt : k < n
        · obtain ⟨b', o', e', hb', hc⟩ := R.str hlt
          injection e' with e'
          injection e' with e1 e2
          subst e1; subst e2
          have hno := unhide HNO k hlt
          have hyes : ∀ (_ : (L.getD k ByteArray.empty).size ≤ 64 ∧ (L.getD k ByteArray.empty).size = s0.size), ∀ j, j < k + 1 → (L.getD j ByteArray.empty).size ≤ 64 ∧ (L.getD j ByteArray.empty).size = s0.size := fun h j hj => by
            by_cases hjk : j < k
            · exact unhide hz j hjk
            · obtain rfl : j = k := by omega
              exact h
          have HY := hide hyes
          have HNOk := hide hno
          generalize L.getD k ByteArray.empty = s at *
          clear R hlen hz hno hyes HNO HOK HS
          by_cases t1 : 64 < s.size
          · have hno := unhide HNOk (.inl t1)
            have t1I : (64 : Int) < (s.size : Int) := by omega
            have HN := hide hno
            clear hno HNOk HY t1
            go_wp2
            go_ret
            exact ⟨⟨2, rfl, .inr ⟨unhide HN, by omega⟩⟩, rfl⟩
          · have t1I : ¬ (64 : Int) < (s.size : Int) := by omega
            by_cases t2 : s.size = s0.size
            · have hy := unhide HY ⟨by omega, t2⟩
              have t2I : ((s.size : Int) != (s0.size : Int)) = false := by rw [t2]; simp
              have HY2 := hide hy
              clear hy HY HNOk t2
              go_wp2
              go_roundw
              case rel => exact ⟨k + 1, by omega, num_eqP (by omega), HY2, by first | rfl | trivial⟩
              case measure => simp [intOf]; omega
            · have hno := unhide HNOk (.inr t2)
              have t2I : ((s.size : Int) != (s0.size : Int)) = true := by rw [bne_iff_ne]; omega
              have t2J : ¬ (s.size : Int) = (s0.size : Int) := by omega
              have HN := hide hno
              clear hno HNOk HY
              go_wp2
              go_ret
              exact ⟨⟨3, rfl, .inr ⟨unhide HN, by omega⟩⟩, rfl⟩
        · obtain rfl : k = n := by omega
          have hok := unhide HOK (unhide hz)
          have HO := hide hok
          clear hok hz R
          go_wp2
          go_ret
          exact ⟨⟨0, rfl, .inl ⟨unhide HO, rfl⟩⟩, rfl⟩
end Go.Proofs.Ytkebldjepdhioaa

/-
  The contract of pair.sums.
-/
set_option linter.unusedVariables false
set_option linter.unusedSimpArgs false
namespace Go.Proofs.Ytkebldjepdhioaa
open Go.RowKit Go.BigFrame

theorem byteI : EInfo Try.prog 47 5 (.int .u8 0) 1 1 := EInfo.mk_ Try.underlying47 (by kernel_rfl) rfl (by omega)
theorem Made.other {w : World} {base e sz n : Nat} {v : Value} {xs : List Value} (h : Made w base e sz v n xs) {p : Addr} (hne : v.ownBlock ≠ some p.block) (u : Value) : Made (w.setCell p u) base e sz v n xs := by
  obtain ⟨h1, h2⟩ := h
  refine ⟨h1, ?_⟩
  rcases h2 with h2 | ⟨g, cap, cur, rfl, hg, hh, r⟩
  · exact .inl h2
  · have hgp : g ≠ p.block := fun e => hne (by rw [← e]; rfl)
    exact .inr ⟨g, cap, cur, rfl, hg, by simp [World.setCell, Array.getElem?_modify, Ne.symm hgp, hh], r⟩
/-- Turned up to k. -/
def mix (f g : Nat → Nat) (m k : Nat) : List Nat := (List.range m).map fun j => if j < k then g j else f j
theorem mix_length (f g : Nat → Nat) (m k : Nat) : (mix f g m k).length = m := by simp [mix]
theorem mix_zero (f g : Nat → Nat) (m : Nat) : mix f g m 0 = (List.range m).map f := by simp [mix]
theorem mix_all (f g : Nat → Nat) (m : Nat) : mix f g m m = (List.range m).map g := by
  unfold mix
  apply List.map_congr_left
  intro j hj
  rw [if_pos (List.mem_range.1 hj)]
theorem mix_get (f g : Nat → Nat) {m k : Nat} (h : k < m) : (mix f g m k).getD k 0 = f k := by
  unfold mix
  rw [List.getD_eq_getElem?_getD, List.getElem?_map, List.getElem?_range h]
  simp
theorem mix_set (f g : Nat → Nat) {m k : Nat} (h : k < m) : (mix f g m k).set k (g k) = mix f g m (k + 1) := by
  unfold mix
  apply List.ext_getElem (by simp)
  intro j h1 h2
  rw [List.getElem_set]
  split
  · rename_i e; subst e; simp
  · rename_i e
    simp only [List.getElem_map, List.getElem_range]
    by_cases hj : j < k
    · rw [if_pos hj, if_pos (by omega)]
    · rw [if_neg hj, if_neg (by omega)]

theorem zerosP (m : Nat) (f : Nat → Nat) (h : ∀ k, f k = 0) : List.replicate m (Value.int .u8 0) = nats .u8 ((List.range m).map f) := by
  apply List.ext_getElem (by simp [nats])
  intro j h1 h2
  simp [nats, h]

def SumsPost (L : List ByteArray) (lost : List Int) (m : Nat) (w w' : World) (e : Ending) : Prop := ∃ gp gq : Nat, gp ≠ gq ∧ e = .returned (.tuple #[.slice (some ⟨gp, 0, none⟩) m m, .slice (some ⟨gq, 0, none⟩) m m]) ∧
  Made w' w.heap.size 5 1 (.slice (some ⟨gp, 0, none⟩) m m) m (nats .u8 ((List.range m).map fun k => pc L lost k L.length)) ∧ Made w' w.heap.size 5 1 (.slice (some ⟨gq, 0, none⟩) m m) m (nats .u8 ((List.range m).map fun k => qc L lost k L.length))

set_option maxRecDepth 100000 in
set_option maxHeartbeats 4000000 in
theorem sums_any (A : Option Addr) (n c m : Nat) (L : List ByteArray) (B : Option Addr) (nl cl : Nat) (lost : List Int) (w : World) (R : Row w A n 1 (strs L)) (RL : Row w B nl 1 (ints lost)) (hnl : nl ≤ 1000) (h1 : 1 ≤ n) (hn : n ≤ 10) (hm : m ≤ 64) (hs : ∀ i, i < n → (L.getD i ByteArray.empty).size = m) :
    Calls Try.prog 35 #[.slice A n c, .slice B nl cl] w fun e w' => SumsPost L lost m w w' e ∧ Ext w w' := by
  have hlen := R.strN
  obtain ⟨b, o, rfl, hb, hc0⟩ := R.str (k := 0) (by omega)
  have hs0 := hs 0 (by omega)
  rw [Nat.add_zero] at hc0
  have hmk : ∀ w : World, (Instr.makeSlice 47 (.int .i64 (m : Int)) (.int .i64 (m : Int))).run Try.prog w = .ok (.slice (some ⟨w.heap.size, 0, none⟩) m m) (w.alloc (.cells (madeCells #[.int .u8 0] m) 5)) := fun w => by
    have := make_run byteI m m (Nat.le_refl _) (by omega) (by omega) w
    rw [Nat.mul_one] at this
    exact this
  have CC := hide (fun (x : Int) (w' : World) (E : Ext w w') => contains_int B nl cl lost x w' (RL.keep E) hnl)
  have CW := hide weight_ok
  have CM := hide Mul_any
  have HS := hide hs
  have HR := hide R
  have hd := World.new_ne w ⟨b, o, none⟩ hc0
  have hn0 : (0 : Int) < (n : Int) := by omega
  have hn0N : 0 < n := by omega
  obtain ⟨C, hC⟩ : ∃ C : Obj, C = .cells (madeCells #[.int .u8 0] m) 5 := ⟨_, rfl⟩
  have M0 : Made ((w.alloc C).alloc C).drew w.heap.size 5 1 (.slice (some ⟨w.heap.size, 0, none⟩) m m) m (List.replicate m (.int .u8 0)) := by
    rw [hC]
    exact (Made.make (w := w) (base := w.heap.size) (e := 5) (.int .u8 0) m (Nat.le_refl _) (by omega)).keep (((Ext.refl _).alloc _).drew)
  have M1 : Made ((w.alloc C).alloc C).drew w.heap.size 5 1 (.slice (some ⟨w.heap.size + 1, 0, none⟩) m m) m (List.replicate m (.int .u8 0)) := by
    rw [hC]
    have := (Made.make (w := w.alloc (.cells (madeCells #[.int .u8 0] m) 5)) (base := w.heap.size) (e := 5) (.int .u8 0) m (by simp) (by omega)).keep ((Ext.refl _).drew)
    simpa using this
  have HZ : Hid (List.replicate m (Value.int .u8 0) = nats .u8 ((List.range m).map fun k => pc L lost k 0) ∧ List.replicate m (Value.int .u8 0) = nats .u8 ((List.range m).map fun k => qc L lost k 0)) := hide ⟨zerosP m _ (fun _ => rfl), zerosP m _ (fun _ => rfl)⟩
  have HM0 := hide M0
  have HM1 := hide M1
  have HC := hide hC
  have EW : Ext w ((w.alloc C).alloc C).drew := (((Ext.refl w).alloc _).alloc _).drew
  clear R RL hs M0 M1 hC
  generalize L.getD 0 ByteArray.empty = s0 at *
  subst hs0
  go_enter Try.func35, Try.ntmps35
  go_upto_region 1 with fail
  go_region_held3 (fun w' => w'.cell? ⟨b, o, none⟩ = some (.string s0)) (go_keep) (fail)
  all_goals rw [← unhide HC]
  · obtain ⟨gq, hgq⟩ : ∃ g, g = w.heap.size + 1 := ⟨_, rfl⟩
    obtain ⟨gp, hgp⟩ : ∃ g, g = w.heap.size := ⟨_, rfl⟩
    have hgb : w.heap.size ≤ gp ∧ w.heap.size ≤ gq ∧ gp ≠ gq := by omega
    have MP : Made ((w.alloc C).alloc C).drew w.heap.size 5 1 (.slice (some ⟨gp, 0, none⟩) s0.size s0.size) s0.size (nats .u8 ((List.range s0.size).map fun k => pc L lost k 0)) := by
      rw [hgp, ← (unhide HZ).1]; exact unhide HM0
    have MQ : Made ((w.alloc C).alloc C).drew w.heap.size 5 1 (.slice (some ⟨gq, 0, none⟩) s0.size s0.size) s0.size (nats .u8 ((List.range s0.size).map fun k => qc L lost k 0)) := by
      rw [hgq, ← (unhide HZ).2]; exact unhide HM1
    rw [← hgq, ← hgp]
    generalize ((w.alloc C).alloc C).drew = W at *
    have HMP := hide MP
    have HMQ := hide MQ
    clear hgp hgq HM0 HM1 HZ HC MP MQ hd hc0
    obtain ⟨m, hmm⟩ : ∃ m, m = s0.size := ⟨_, rfl⟩
    rw [← hmm] at hm HS HMP HMQ ⊢
    have HMM := hide hmm
    clear hmm
    go_wp2
    go_loopw [23] (fun i wr => ∃ k : Nat, k ≤ n ∧ i = .int .i64 k ∧ Hid (Made wr w.heap.size 5 1 (.slice (some ⟨gp, 0, none⟩) m m) m (nats .u8 ((List.range m).map fun j => pc L lost j k))) ∧
      Hid (Made wr w.heap.size 5 1 (.slice (some ⟨gq, 0, none⟩) m m) m (nats .u8 ((List.range m).map fun j => qc L lost j k))) ∧ Ext w wr) (fun i _ => n - (intOf i).toNat)
    case atStart => exact ⟨0, Nat.zero_le _, rfl, HMP, HMQ, EW⟩
    case round =>
      clear HMP HMQ EW
      obtain ⟨i, hi, rfl, HMP, HMQ, hext⟩ := hrel
      by_cases hlt : i < n
      · obtain ⟨b', o', e', hb', hcs⟩ := ((unhide HR).keep hext).str hlt
        injection e' with e'
        injection e' with e1 e2
        subst e1; subst e2
        have hsz := unhide HS i hlt
        have hst : ∀ k, (pc L lost k (i + 1) = if (i : Int) ∈ lost then pc L lost k i else pc L lost k i ^^^ byt (L.getD i ByteArray.empty) k) ∧ (qc L lost k (i + 1) = if (i : Int) ∈ lost then qc L lost k i else qc L lost k i ^^^ Wm.fmul (byt (L.getD i ByteArray.empty) k) (Wm.fpow 2 i)) := fun k => ⟨rfl, rfl⟩
        have hpl := fun k => pc_lt L lost k i
        have hql := fun k => qc_lt L lost k i
        generalize L.getD i ByteArray.empty = s at *
        have C1 := hide (unhide CC (i : Int) wr hext)
        have hszI : (s.size : Int) = (m : Int) := by omega
        by_cases hin : (i : Int) ∈ lost
        · have hsP : ((List.range m).map fun j => pc L lost j i) = (List.range m).map fun j => pc L lost j (i + 1) := List.map_congr_left fun j _ => by rw [(hst j).1, if_pos hin]
          have hsQ : ((List.range m).map fun j => qc L lost j i) = (List.range m).map fun j => qc L lost j (i + 1) := List.map_congr_left fun j _ => by rw [(hst j).2, if_pos hin]
          rw [hsP] at HMP
          rw [hsQ] at HMQ
          rw [decide_eq_true hin] at C1
          clear hst hpl hql hsP hsQ hin
          go_wp2_with fail
          refine (unhide C1).mono ?_
          rintro e w' ⟨rfl, rfl⟩
          go_wp2
          go_roundw
          case rel => exact ⟨i + 1, by omega, num_eqP (by omega), HMP, HMQ, hext⟩
          case measure => simp [intOf]; omega
        · rw [decide_eq_false hin] at C1
          have hP : ∀ j, pc L lost j (i + 1) = pc L lost j i ^^^ byt s j := fun j => by rw [(hst j).1, if_neg hin]
          have hQ : ∀ j, qc L lost j (i + 1) = qc L lost j i ^^^ Wm.fmul (byt s j) (Wm.fpow 2 i) := fun j => by rw [(hst j).2, if_neg hin]
          have HPP := hide hP
          have HQQ := hide hQ
          have HPL := hide hpl
          have HQL := hide hql
          clear hst hP hQ hpl hql hin
          go_wp2_with fail
          refine (unhide C1).mono ?_
          rintro e w' ⟨rfl, rfl⟩
          go_wp2
          obtain ⟨wo, hwo⟩ : ∃ wo : World, wo = w' := ⟨_, rfl⟩
          go_loopw [33] (fun k wi => ∃ j : Nat, j ≤ m ∧ k = .int .i64 j ∧ Hid (Made wi w.heap.size 5 1 (.slice (some ⟨gp, 0, none⟩) m m) m (nats .u8 (mix (fun k => pc L lost k i) (fun k => pc L lost k (i + 1)) m j))) ∧
            Hid (Made wi w.heap.size 5 1 (.slice (some ⟨gq, 0, none⟩) m m) m (nats .u8 (mix (fun k => qc L lost k i) (fun k => qc L lost k (i + 1)) m j))) ∧ Ext w wi) (fun k _ => m - (intOf k).toNat)
          case atStart => exact ⟨0, Nat.zero_le _, rfl, by rw [mix_zero]; exact HMP, by rw [mix_zero]; exact HMQ, hext⟩
          case round =>
            clear HMP HMQ hext hwo
            obtain ⟨j, hj, rfl, HMP, HMQ, hext⟩ := hrel
            by_cases hjm : j < m
            · have MP := unhide HMP
              have MQ := unhide HMQ
              have hcp := MP.nat hjm
              have hcq := MQ.nat hjm
              have hfp := MP.frozen j
              have hfq := MQ.frozen j
              rw [mix_get _ _ hjm] at hcp hcq
              have hjs : j < s.size := by omega
              have hbyt := byt_get s j hjs
              have hpv := unhide HPP j
              have hqv := unhide HQQ j
              have hpl := unhide HPL j
              have hql := unhide HQL j
              have hvl := byt_lt s j
              have hsetP := mix_set (fun k => pc L lost k i) (fun k => pc L lost k (i + 1)) hjm
              have hsetQ := mix_set (fun k => qc L lost k i) (fun k => qc L lost k (i + 1)) hjm
              try dsimp only at hcp
              try dsimp only at hcq
              try dsimp only at hsetP
              try dsimp only at hsetQ
              rw [hpv] at hsetP
              rw [hqv] at hsetQ
              have hX1 := u8_xor_nat (pc L lost j i) (byt s j) hpl hvl
              have hwl : Wm.fpow 2 i < 256 := Wm.fpow_lt (by omega) _
              have hml := Wm.fmul_lt hvl hwl
              have hX2 := u8_xor_nat (qc L lost j i) (Wm.fmul (byt s j) (Wm.fpow 2 i)) hql hml
              have C2 := hide (fun w : World => unhide CW i (by omega) w)
              have C3 := hide (fun w : World => unhide CM (byt s j) (Wm.fpow 2 i) hvl hwl w)
              have hSP := hide hsetP
              have hSQ := hide hsetQ
              have HPM := hide MP
              have HQM := hide MQ
              clear hsetP hsetQ MP MQ hpv hqv HMP HMQ
              generalize Wm.fmul (byt s j) (Wm.fpow 2 i) = pr at *
              generalize Wm.fpow 2 i = we at *
              generalize byt s j = v at *
              generalize pc L lost j i = f0 at *
              generalize qc L lost j i = h0 at *
              have hj0 : (0 : Int) ≤ (j : Int) := by omega
              have hjm2 : (j : Int) < (m : Int) := by omega
              have hjs2 : (j : Int) < (s.size : Int) := by omega
              go_upto_region 9 with fail
              go_still_tail 9, (by kernel_rfl)
              have hne1 : ¬ gp = gq := hgb.2.2
              have hne2 : ¬ gq = gp := fun e => hgb.2.2 e.symm
              obtain ⟨W9, hW9⟩ : ∃ W9, W9 = (wr.setCell ⟨gp, j, none⟩ (.int .u8 ((f0 ^^^ v : Nat) : Int))).drew := ⟨_, rfl⟩
              have P9 : Made W9 w.heap.size 5 1 (.slice (some ⟨gp, 0, none⟩) m m) m (nats .u8 (mix (fun k => pc L lost k i) (fun k => pc L lost k (i + 1)) m (j + 1))) := by
                rw [hW9, ← unhide hSP, ← nats_set]
                exact ((unhide HPM).set (by omega) _).keep ((Ext.refl _).drew)
              have Q9 : Made W9 w.heap.size 5 1 (.slice (some ⟨gq, 0, none⟩) m m) m (nats .u8 (mix (fun k => qc L lost k i) (fun k => qc L lost k (i + 1)) m j)) := by
                rw [hW9]
                exact ((unhide HQM).other (by simp [Value.ownBlock]; exact hne2) _).keep ((Ext.refl _).drew)
              have q9 : W9.cell? ⟨gq, j, none⟩ = some (.int .u8 (h0 : Int)) := by
                rw [hW9]
                exact (World.cell?_setCell_other _ _ _ _ (by simp [hne1])).trans hcq
              have E9 : Ext w W9 := by
                rw [hW9]
                exact (hext.setCell (p := ⟨gp, j, none⟩) hgb.1 _).drew
              have HP9 := hide P9
              have HQ9 := hide Q9
              have HW9 := hide hW9
              clear P9 Q9 hW9 HPM HQM hSP
              go_upto_region 10 with fail
              rw [← unhide HW9]
              clear HW9 hcp hcq hfp hfq hX1
              have x9 := fun x' => plus_keep (w := W9.drew) (a := ⟨gq, j, none⟩) q9 x'
              refine wp_region_tail 12 (fun w w' => ∃ x, w' = plus w x) (fun w => Ext.plus (Ext.refl w)) (fun _ _ d _ _ h => by cases d <;> exact h) (by kernel_rfl) (by kernel_rfl) ?_
              show wpQuiet _ _ _ _ (_ :: _ :: _ :: _ :: _ :: _ :: _ :: _ :: _ :: _ :: _ :: _ :: []) _
              repeat (go_big_quiet_step ((first | (go_at_call 37; with_reducible exact ext_call_same (unhide C2 _)) | (go_at_call 22; with_reducible exact ext_call_same (unhide C3 _)))))
              refine wpQuiet_nil ?_
              rintro wq ⟨xq, rfl⟩
              show wpList _ _ _ (_ :: []) _ _
              have EX : Ext W9 (plus W9.drew xq) := (Ext.refl W9).drew.trans (plus_ext _ _)
              have q10 := x9 xq
              have P10 := (unhide HP9).keep EX
              have Q10 := (unhide HQ9).keep EX
              have f10 := Q10.frozen j
              have E10 := E9.trans EX
              clear x9 EX HP9 HQ9 E9 q9 hcs
              generalize plus W9.drew xq = W10 at *
              have P11 : Made (W10.setCell ⟨gq, j, none⟩ (.int .u8 ((h0 ^^^ pr : Nat) : Int))) w.heap.size 5 1 (.slice (some ⟨gp, 0, none⟩) m m) m (nats .u8 (mix (fun k => pc L lost k i) (fun k => pc L lost k (i + 1)) m (j + 1))) :=
                P10.other (by simp [Value.ownBlock]; exact hne1) _
              have Q11 : Made (W10.setCell ⟨gq, j, none⟩ (.int .u8 ((h0 ^^^ pr : Nat) : Int))) w.heap.size 5 1 (.slice (some ⟨gq, 0, none⟩) m m) m (nats .u8 (mix (fun k => qc L lost k i) (fun k => qc L lost k (i + 1)) m (j + 1))) := by
                rw [← unhide hSQ, ← nats_set]
                exact Q10.set (by omega) _
              have E11 := E10.setCell (p := ⟨gq, j, none⟩) hgb.2.1 (.int .u8 ((h0 ^^^ pr : Nat) : Int))
              have HP11 := hide P11
              have HQ11 := hide Q11
              clear P10 Q10 P11 Q11 E10 hSQ
              go_wp2
              go_roundw
              case rel => exact ⟨j + 1, by omega, num_eqP (by omega), HP11, HQ11, E11⟩
              case measure => simp [intOf]; omega
            · obtain rfl : j = m := by omega
              rw [mix_all] at HMP HMQ
              go_wp2
              go_roundw
              case rel => exact ⟨i + 1, by omega, num_eqP (by omega), HMP, HMQ, hext⟩
              case measure => simp [intOf]; omega
      · obtain rfl : i = n := by omega
        go_wp2
        go_ret2
        exact ⟨⟨gp, gq, hgb.2.2, by rw [← unhide HMM]; rfl, by rw [hlen, ← unhide HMM]; exact unhide HMP, by rw [hlen, ← unhide HMM]; exact unhide HMQ⟩, hext⟩

  · obtain ⟨gp, hgp⟩ : ∃ g, g = w.heap.size + 1 := ⟨_, rfl⟩
    obtain ⟨gq, hgq⟩ : ∃ g, g = w.heap.size := ⟨_, rfl⟩
    have hgb : w.heap.size ≤ gp ∧ w.heap.size ≤ gq ∧ gp ≠ gq := by omega
    have MP : Made ((w.alloc C).alloc C).drew w.heap.size 5 1 (.slice (some ⟨gp, 0, none⟩) s0.size s0.size) s0.size (nats .u8 ((List.range s0.size).map fun k => pc L lost k 0)) := by
      rw [hgp, ← (unhide HZ).1]; exact unhide HM1
    have MQ : Made ((w.alloc C).alloc C).drew w.heap.size 5 1 (.slice (some ⟨gq, 0, none⟩) s0.size s0.size) s0.size (nats .u8 ((List.range s0.size).map fun k => qc L lost k 0)) := by
      rw [hgq, ← (unhide HZ).2]; exact unhide HM0
    rw [← hgp, ← hgq]
    generalize ((w.alloc C).alloc C).drew = W at *
    have HMP := hide MP
    have HMQ := hide MQ
    clear hgp hgq HM0 HM1 HZ HC MP MQ hd hc0
    obtain ⟨m, hmm⟩ : ∃ m, m = s0.size := ⟨_, rfl⟩
    rw [← hmm] at hm HS HMP HMQ ⊢
    have HMM := hide hmm
    clear hmm
    go_wp2
    go_loopw [23] (fun i wr => ∃ k : Nat, k ≤ n ∧ i = .int .i64 k ∧ Hid (Made wr w.heap.size 5 1 (.slice (some ⟨gp, 0, none⟩) m m) m (nats .u8 ((List.range m).map fun j => pc L lost j k))) ∧
      Hid (Made wr w.heap.size 5 1 (.slice (some ⟨gq, 0, none⟩) m m) m (nats .u8 ((List.range m).map fun j => qc L lost j k))) ∧ Ext w wr) (fun i _ => n - (intOf i).toNat)
    case atStart => exact ⟨0, Nat.zero_le _, rfl, HMP, HMQ, EW⟩
    case round =>
      clear HMP HMQ EW
      obtain ⟨i, hi, rfl, HMP, HMQ, hext⟩ := hrel
      by_cases hlt : i < n
      · obtain ⟨b', o', e', hb', hcs⟩ := ((unhide HR).keep hext).str hlt
        injection e' with e'
        injection e' with e1 e2
        subst e1; subst e2
        have hsz := unhide HS i hlt
        have hst : ∀ k, (pc L lost k (i + 1) = if (i : Int) ∈ lost then pc L lost k i else pc L lost k i ^^^ byt (L.getD i ByteArray.empty) k) ∧ (qc L lost k (i + 1) = if (i : Int) ∈ lost then qc L lost k i else qc L lost k i ^^^ Wm.fmul (byt (L.getD i ByteArray.empty) k) (Wm.fpow 2 i)) := fun k => ⟨rfl, rfl⟩
        have hpl := fun k => pc_lt L lost k i
        have hql := fun k => qc_lt L lost k i
        generalize L.getD i ByteArray.empty = s at *
        have C1 := hide (unhide CC (i : Int) wr hext)
        have hszI : (s.size : Int) = (m : Int) := by omega
        by_cases hin : (i : Int) ∈ lost
        · have hsP : ((List.range m).map fun j => pc L lost j i) = (List.range m).map fun j => pc L lost j (i + 1) := List.map_congr_left fun j _ => by rw [(hst j).1, if_pos hin]
          have hsQ : ((List.range m).map fun j => qc L lost j i) = (List.range m).map fun j => qc L lost j (i + 1) := List.map_congr_left fun j _ => by rw [(hst j).2, if_pos hin]
          rw [hsP] at HMP
          rw [hsQ] at HMQ
          rw [decide_eq_true hin] at C1
          clear hst hpl hql hsP hsQ hin
          go_wp2_with fail
          refine (unhide C1).mono ?_
          rintro e w' ⟨rfl, rfl⟩
          go_wp2
          go_roundw
          case rel => exact ⟨i + 1, by omega, num_eqP (by omega), HMP, HMQ, hext⟩
          case measure => simp [intOf]; omega
        · rw [decide_eq_false hin] at C1
          have hP : ∀ j, pc L lost j (i + 1) = pc L lost j i ^^^ byt s j := fun j => by rw [(hst j).1, if_neg hin]
          have hQ : ∀ j, qc L lost j (i + 1) = qc L lost j i ^^^ Wm.fmul (byt s j) (Wm.fpow 2 i) := fun j => by rw [(hst j).2, if_neg hin]
          have HPP := hide hP
          have HQQ := hide hQ
          have HPL := hide hpl
          have HQL := hide hql
          clear hst hP hQ hpl hql hin
          go_wp2_with fail
          refine (unhide C1).mono ?_
          rintro e w' ⟨rfl, rfl⟩
          go_wp2
          obtain ⟨wo, hwo⟩ : ∃ wo : World, wo = w' := ⟨_, rfl⟩
          go_loopw [33] (fun k wi => ∃ j : Nat, j ≤ m ∧ k = .int .i64 j ∧ Hid (Made wi w.heap.size 5 1 (.slice (some ⟨gp, 0, none⟩) m m) m (nats .u8 (mix (fun k => pc L lost k i) (fun k => pc L lost k (i + 1)) m j))) ∧
            Hid (Made wi w.heap.size 5 1 (.slice (some ⟨gq, 0, none⟩) m m) m (nats .u8 (mix (fun k => qc L lost k i) (fun k => qc L lost k (i + 1)) m j))) ∧ Ext w wi) (fun k _ => m - (intOf k).toNat)
          case atStart => exact ⟨0, Nat.zero_le _, rfl, by rw [mix_zero]; exact HMP, by rw [mix_zero]; exact HMQ, hext⟩
          case round =>
            clear HMP HMQ hext hwo
            obtain ⟨j, hj, rfl, HMP, HMQ, hext⟩ := hrel
            by_cases hjm : j < m
            · have MP := unhide HMP
              have MQ := unhide HMQ
              have hcp := MP.nat hjm
              have hcq := MQ.nat hjm
              have hfp := MP.frozen j
              have hfq := MQ.frozen j
              rw [mix_get _ _ hjm] at hcp hcq
              have hjs : j < s.size := by omega
              have hbyt := byt_get s j hjs
              have hpv := unhide HPP j
              have hqv := unhide HQQ j
              have hpl := unhide HPL j
              have hql := unhide HQL j
              have hvl := byt_lt s j
              have hsetP := mix_set (fun k => pc L lost k i) (fun k => pc L lost k (i + 1)) hjm
              have hsetQ := mix_set (fun k => qc L lost k i) (fun k => qc L lost k (i + 1)) hjm
              try dsimp only at hcp
              try dsimp only at hcq
              try dsimp only at hsetP
              try dsimp only at hsetQ
              rw [hpv] at hsetP
              rw [hqv] at hsetQ
              have hX1 := u8_xor_nat (pc L lost j i) (byt s j) hpl hvl
              have hwl : Wm.fpow 2 i < 256 := Wm.fpow_lt (by omega) _
              have hml := Wm.fmul_lt hvl hwl
              have hX2 := u8_xor_nat (qc L lost j i) (Wm.fmul (byt s j) (Wm.fpow 2 i)) hql hml
              have C2 := hide (fun w : World => unhide CW i (by omega) w)
              have C3 := hide (fun w : World => unhide CM (byt s j) (Wm.fpow 2 i) hvl hwl w)
              have hSP := hide hsetP
              have hSQ := hide hsetQ
              have HPM := hide MP
              have HQM := hide MQ
              clear hsetP hsetQ MP MQ hpv hqv HMP HMQ
              generalize Wm.fmul (byt s j) (Wm.fpow 2 i) = pr at *
              generalize Wm.fpow 2 i = we at *
              generalize byt s j = v at *
              generalize pc L lost j i = f0 at *
              generalize qc L lost j i = h0 at *
              have hj0 : (0 : Int) ≤ (j : Int) := by omega
              have hjm2 : (j : Int) < (m : Int) := by omega
              have hjs2 : (j : Int) < (s.size : Int) := by omega
              go_upto_region 9 with fail
              go_still_tail 9, (by kernel_rfl)
              have hne1 : ¬ gp = gq := hgb.2.2
              have hne2 : ¬ gq = gp := fun e => hgb.2.2 e.symm
              obtain ⟨W9, hW9⟩ : ∃ W9, W9 = (wr.setCell ⟨gp, j, none⟩ (.int .u8 ((f0 ^^^ v : Nat) : Int))).drew := ⟨_, rfl⟩
              have P9 : Made W9 w.heap.size 5 1 (.slice (some ⟨gp, 0, none⟩) m m) m (nats .u8 (mix (fun k => pc L lost k i) (fun k => pc L lost k (i + 1)) m (j + 1))) := by
                rw [hW9, ← unhide hSP, ← nats_set]
                exact ((unhide HPM).set (by omega) _).keep ((Ext.refl _).drew)
              have Q9 : Made W9 w.heap.size 5 1 (.slice (some ⟨gq, 0, none⟩) m m) m (nats .u8 (mix (fun k => qc L lost k i) (fun k => qc L lost k (i + 1)) m j)) := by
                rw [hW9]
                exact ((unhide HQM).other (by simp [Value.ownBlock]; exact hne2) _).keep ((Ext.refl _).drew)
              have q9 : W9.cell? ⟨gq, j, none⟩ = some (.int .u8 (h0 : Int)) := by
                rw [hW9]
                exact (World.cell?_setCell_other _ _ _ _ (by simp [hne1])).trans hcq
              have E9 : Ext w W9 := by
                rw [hW9]
                exact (hext.setCell (p := ⟨gp, j, none⟩) hgb.1 _).drew
              have HP9 := hide P9
              have HQ9 := hide Q9
              have HW9 := hide hW9
              clear P9 Q9 hW9 HPM HQM hSP
              go_upto_region 10 with fail
              rw [← unhide HW9]
              clear HW9 hcp hcq hfp hfq hX1
              have x9 := fun x' => plus_keep (w := W9.drew) (a := ⟨gq, j, none⟩) q9 x'
              refine wp_region_tail 12 (fun w w' => ∃ x, w' = plus w x) (fun w => Ext.plus (Ext.refl w)) (fun _ _ d _ _ h => by cases d <;> exact h) (by kernel_rfl) (by kernel_rfl) ?_
              show wpQuiet _ _ _ _ (_ :: _ :: _ :: _ :: _ :: _ :: _ :: _ :: _ :: _ :: _ :: _ :: []) _
              repeat (go_big_quiet_step ((first | (go_at_call 37; with_reducible exact ext_call_same (unhide C2 _)) | (go_at_call 22; with_reducible exact ext_call_same (unhide C3 _)))))
              refine wpQuiet_nil ?_
              rintro wq ⟨xq, rfl⟩
              show wpList _ _ _ (_ :: []) _ _
              have EX : Ext W9 (plus W9.drew xq) := (Ext.refl W9).drew.trans (plus_ext _ _)
              have q10 := x9 xq
              have P10 := (unhide HP9).keep EX
              have Q10 := (unhide HQ9).keep EX
              have f10 := Q10.frozen j
              have E10 := E9.trans EX
              clear x9 EX HP9 HQ9 E9 q9 hcs
              generalize plus W9.drew xq = W10 at *
              have P11 : Made (W10.setCell ⟨gq, j, none⟩ (.int .u8 ((h0 ^^^ pr : Nat) : Int))) w.heap.size 5 1 (.slice (some ⟨gp, 0, none⟩) m m) m (nats .u8 (mix (fun k => pc L lost k i) (fun k => pc L lost k (i + 1)) m (j + 1))) :=
                P10.other (by simp [Value.ownBlock]; exact hne1) _
              have Q11 : Made (W10.setCell ⟨gq, j, none⟩ (.int .u8 ((h0 ^^^ pr : Nat) : Int))) w.heap.size 5 1 (.slice (some ⟨gq, 0, none⟩) m m) m (nats .u8 (mix (fun k => qc L lost k i) (fun k => qc L lost k (i + 1)) m (j + 1))) := by
                rw [← unhide hSQ, ← nats_set]
                exact Q10.set (by omega) _
              have E11 := E10.setCell (p := ⟨gq, j, none⟩) hgb.2.1 (.int .u8 ((h0 ^^^ pr : Nat) : Int))
              have HP11 := hide P11
              have HQ11 := hide Q11
              clear P10 Q10 P11 Q11 E10 hSQ
              go_wp2
              go_roundw
              case rel => exact ⟨j + 1, by omega, num_eqP (by omega), HP11, HQ11, E11⟩
              case measure => simp [intOf]; omega
            · obtain rfl : j = m := by omega
              rw [mix_all] at HMP HMQ
              go_wp2
              go_roundw
              case rel => exact ⟨i + 1, by omega, num_eqP (by omega), HMP, HMQ, hext⟩
              case measure => simp [intOf]; omega
      · obtain rfl : i = n := by omega
        go_wp2
        go_ret2
        exact ⟨⟨gp, gq, hgb.2.2, by rw [← unhide HMM]; rfl, by rw [hlen, ← unhide HMM]; exact unhide HMP, by rw [hlen, ← unhide HMM]; exact unhide HMQ⟩, hext⟩

end Go.Proofs.Ytkebldjepdhioaa

/-
  The contracts of pair.Put and of the laws' own sum of two strings.
-/
set_option linter.unusedVariables false
set_option linter.unusedSimpArgs false
namespace Go.Proofs.Ytkebldjepdhioaa
open Go.RowKit Go.BigFrame

/-- A string of numbers. -/
def pstrN (l : List Nat) : ByteArray := ⟨(l.map UInt8.ofNat).toArray⟩
theorem pstrN_size (l : List Nat) : (pstrN l).size = l.length := by simp [pstrN, ByteArray.size]
theorem pstrN_byt (l : List Nat) (h : ∀ x ∈ l, x < 256) {k : Nat} (hk : k < l.length) : byt (pstrN l) k = l.getD k 0 := by
  unfold byt pstrN
  rw [Array.getD_eq_getD_getElem?, List.getElem?_toArray, List.getElem?_map, List.getD_eq_getElem?_getD, List.getElem?_eq_getElem hk]
  simp only [Option.map_some, Option.getD_some]
  have := h _ (List.getElem_mem hk)
  rw [UInt8.toNat_ofNat']
  exact Nat.mod_eq_of_lt (by simpa using this)
theorem pstrN_nums (l : List Nat) : strOfNums (l.map fun (x : Nat) => (x : Int)) = pstrN l := by
  unfold strOfNums pstrN
  rw [List.map_map]
  rfl
theorem pstr_ext {s t : ByteArray} (h : s.size = t.size) (hb : ∀ k, k < s.size → byt s k = byt t k) : s = t := by
  cases s with | mk a =>
  cases t with | mk b =>
  congr 1
  have hs : a.size = b.size := h
  apply Array.ext hs
  intro i h1 h2
  have := hb i h1
  unfold byt at this
  simp only [Array.getD_eq_getD_getElem?, Array.getElem?_eq_getElem h1, Array.getElem?_eq_getElem h2, Option.getD_some] at this
  exact UInt8.toNat_inj.1 this

/-- A row of cells that may be written. -/
def PBuf (w : World) (base g : Nat) (xs : List Value) : Prop := base ≤ g ∧ g < w.heap.size ∧ ∀ j, j < xs.length → w.cell? ⟨g, j, none⟩ = xs[j]? ∧ w.frozen? ⟨g, j, none⟩ = false
section
variable {w w' : World} {base g : Nat} {xs : List Value}
theorem PBuf.keep (h : PBuf w base g xs) (E : Ext w w') : PBuf w' base g xs :=
  ⟨h.1, Nat.lt_of_lt_of_le h.2.1 E.size, fun j hj => ⟨(E.cell (p := ⟨g, j, none⟩) h.2.1).trans (h.2.2 j hj).1, (E.frozen (p := ⟨g, j, none⟩) h.2.1).trans (h.2.2 j hj).2⟩⟩
theorem PBuf.set (h : PBuf w base g xs) {k : Nat} (hk : k < xs.length) (u : Value) : PBuf (w.setCell ⟨g, k, none⟩ u) base g (xs.set k u) := by
  refine ⟨h.1, by simpa using h.2.1, fun j hj => ?_⟩
  rw [List.length_set] at hj
  refine ⟨?_, by rw [World.frozen?_setCell]; exact (h.2.2 j hj).2⟩
  by_cases e : k = j
  · subst e
    rw [List.getElem?_set_self hk]
    exact World.cell?_setCell_same' _ _ _ (by rw [(h.2.2 k hk).1, List.getElem?_eq_getElem hk]; rfl)
  · rw [List.getElem?_set_ne e]
    exact (World.cell?_setCell_other _ _ _ _ (by first | (simp; exact e) | simp [e])).trans (h.2.2 j hj).1
theorem PBuf.other (h : PBuf w base g xs) {p : Addr} (hne : p.block ≠ g) (u : Value) : PBuf (w.setCell p u) base g xs :=
  ⟨h.1, by simpa using h.2.1, fun j hj => ⟨(World.cell?_setCell_other _ _ _ _ (fun e => hne (by rw [e]))).trans (h.2.2 j hj).1, by rw [World.frozen?_setCell]; exact (h.2.2 j hj).2⟩⟩
theorem PBuf.nat {K : IntKind} {l : List Nat} (h : PBuf w base g (nats K l)) {k : Nat} (hk : k < l.length) : w.cell? ⟨g, k, none⟩ = some (.int K ((l.getD k 0 : Nat) : Int)) ∧ w.frozen? ⟨g, k, none⟩ = false := by
  obtain ⟨h1, h2⟩ := h.2.2 k (by rw [nats_length]; exact hk)
  exact ⟨h1.trans (nats_get K l k hk), h2⟩
/-- The string of such bytes. -/
theorem PBuf.str {P : Program} {src dst e : TypeId} {l : List Nat} (hs : P.underlying src = some (.slice e)) (he : P.underlying e = some (.int .u8)) (hd : P.underlying dst = some .string) (h : PBuf w base g (nats .u8 l)) (c : Nat) :
    (convert src dst (.slice (some ⟨g, 0, none⟩) l.length c)).run P w = .ok (.string (pstrN l)) w := by
  have := run_convert_bytes_arg w src e hs he g 0 l.length c (l.map fun (x : Nat) => (x : Int)) (by simp) (fun i hi => by
    rw [Nat.zero_add, (h.nat hi).1, List.getD_eq_getElem?_getD, List.getD_eq_getElem?_getD, List.getElem?_map, List.getElem?_eq_getElem hi]; rfl) dst hd
  rw [pstrN_nums] at this
  exact this
end
theorem Made.pbuf {w : World} {base e : TypeId} {g n c : Nat} {xs : List Value} (h : Made w base e 1 (.slice (some ⟨g, 0, none⟩) n c) n xs) : PBuf w base g xs := by
  have hl : xs.length = n := by have := h.1; omega
  have hlt := h.lt g rfl
  refine ⟨hlt.1, hlt.2, fun j hj => ⟨?_, h.frozen j⟩⟩
  rw [h.cell (by omega), List.getD_eq_getElem?_getD, List.getElem?_eq_getElem hj]; rfl

/-- '[]byte(s)': what it makes. -/
theorem pbytes_of (w : World) (s : ByteArray) : ∃ (c : Nat) (W : World), (convert 9 47 (.string s)).run Try.prog w = .ok (.slice (some ⟨w.heap.size, 0, none⟩) s.size c) W ∧ Ext w W ∧ s.size ≤ c ∧
    PBuf W w.heap.size w.heap.size (nats .u8 ((List.range s.size).map fun k => byt s k)) := by
  have h := run_bytes_of_string (P := Try.prog) w 9 47 5 s Try.underlying9 Try.underlying47 Try.underlying5
  refine ⟨_, _, h, ((Ext.refl w).drew).alloc _, grownCap_ge _ _ _ _, ?_⟩
  · refine ⟨Nat.le_refl _, by simp, fun j hj => ?_⟩
    have hjs : j < s.size := by simpa [nats] using hj
    have hbs : s.size ≤ (bytesRow s (grownCap w s.size 0 5)).size := by
      unfold bytesRow
      rw [Array.size_append, Array.size_map]
      exact Nat.le_add_right _ _
    constructor
    · refine (World.cell?_alloc_mark w.drew _ _ _ j).trans ?_
      rw [nats_get .u8 _ j (by simpa using hjs)]
      unfold bytesRow
      rw [Array.getElem?_append_left (by simpa using hjs)]
      simp [byt, hjs, Array.getD_eq_getD_getElem?]
    · have hh : (w.drew.alloc (.cells (bytesRow s (grownCap w s.size 0 5)) 5 ((bytesRow s (grownCap w s.size 0 5)).size, (bytesRow s (grownCap w s.size 0 5)).size + 1))).heap[w.heap.size]? = some (.cells (bytesRow s (grownCap w s.size 0 5)) 5 ((bytesRow s (grownCap w s.size 0 5)).size, (bytesRow s (grownCap w s.size 0 5)).size + 1)) := by
        show (w.heap.push _)[w.heap.size]? = _
        simp
      unfold World.frozen?
      rw [hh]
      simp
      omega

def PutOk (L : List ByteArray) (m : Nat) : Value := .tuple #[.string (pstrN ((List.range m).map fun k => pc L [] k L.length)), .string (pstrN ((List.range m).map fun k => qc L [] k L.length)), .int .i64 0]
set_option maxRecDepth 100000 in
set_option maxHeartbeats 1000000 in
theorem pPut_any (A : Option Addr) (n c : Nat) (L : List ByteArray) (w : World) (R : Row w A n 1 (strs L)) (hn : n ≤ 9223372036854775807) (hs : ∀ s ∈ L, (s.size : Int) ≤ 9223372036854775807) :
    Calls Try.prog 14 #[.slice A n c] w fun e w' => ((okB L ∧ e = .returned (PutOk L (L.getD 0 ByteArray.empty).size)) ∨ (¬ okB L ∧ ∃ r : Int, r ≠ 0 ∧ e = .returned (.tuple #[.string ByteArray.empty, .string ByteArray.empty, .int .i64 r]))) ∧ Ext w w' := by
  have CK := hide (pcheck_any A n c L w R hn hs)
  have hlen := R.strN
  by_cases hok : okB L
  · obtain ⟨o1, o2, o3⟩ := hok
    obtain ⟨m, hm⟩ : ∃ m, m = (L.getD 0 ByteArray.empty).size := ⟨_, rfl⟩
    have hmem := getD_mem L ByteArray.empty (show 0 < L.length by omega)
    have hm64 : m ≤ 64 := by rw [hm]; exact (o3 _ hmem).1
    have hall : ∀ i, i < n → (L.getD i ByteArray.empty).size = m := fun i hi => by
      rw [hm]
      exact (o3 _ (getD_mem L ByteArray.empty (show i < L.length by omega))).2
    have CS := hide (fun (w' : World) (E : Ext w w') => sums_any A n c m L none 0 0 [] w' (R.keep E) Row.none_ (by omega) (by omega) (by omega) hm64 hall)
    have hok : okB L := ⟨o1, o2, o3⟩
    rw [← hm]
    have HOK := hide hok
    clear R hs hm hmem hall hn hok o3
    go_enter Try.func14, Try.ntmps14
    go_wp2_with fail
    refine (unhide CK).mono ?_
    rintro e w1 ⟨⟨r, rfl, hr⟩, rfl⟩
    obtain rfl : r = 0 := by
      rcases hr with ⟨-, h⟩ | ⟨h, -⟩
      · exact h
      · exact absurd (unhide HOK) h
    clear hr
    go_wp2_with fail
    refine (unhide CS _ (Ext.refl _)).mono ?_
    rintro e w2 ⟨⟨gp, gq, hne, rfl, MP, MQ⟩, E2⟩
    have cp := fun k => (MP.pbuf.keep ((Ext.refl w2).drewN k)).str (P := Try.prog) Try.underlying47 Try.underlying5 Try.underlying9 m
    have cq := fun k => (MQ.pbuf.keep ((Ext.refl w2).drewN k)).str (P := Try.prog) Try.underlying47 Try.underlying5 Try.underlying9 m
    rw [List.length_map, List.length_range] at cp cq
    have HE : PutOk L m = .tuple #[.string (pstrN ((List.range m).map fun k => pc L [] k L.length)), .string (pstrN ((List.range m).map fun k => qc L [] k L.length)), .int .i64 0] := rfl
    have HEE := hide HE
    clear MP MQ HE
    generalize pstrN ((List.range m).map fun k => pc L [] k L.length) = x at *
    generalize pstrN ((List.range m).map fun k => qc L [] k L.length) = y at *
    go_upto_region 5 with fail
    go_quiet (fail)
    go_wp2
    go_ret3
    exact ⟨.inl ⟨unhide HOK, by rw [unhide HEE]; rfl⟩, E2.drewN _⟩
  · have HNO := hide hok
    clear R hs hn hok
    go_enter Try.func14, Try.ntmps14
    go_wp2_with fail
    refine (unhide CK).mono ?_
    rintro e w1 ⟨⟨r, rfl, hr⟩, rfl⟩
    have hr0 : r ≠ 0 := by
      rcases hr with ⟨h, -⟩ | ⟨-, h⟩
      · exact absurd h (unhide HNO)
      · exact h
    have hrB : (r != 0) = true := by rw [bne_iff_ne]; exact hr0
    have HR0 := hide hr0
    clear hr
    go_wp2
    go_ret3
    exact ⟨.inr ⟨unhide HNO, r, unhide HR0, rfl⟩, Ext.refl _⟩
end Go.Proofs.Ytkebldjepdhioaa

/-
  The contract of the laws' own sum of two strings, and of the laws' own trial of pairs.
-/
set_option linter.unusedVariables false
set_option linter.unusedSimpArgs false
namespace Go.Proofs.Ytkebldjepdhioaa
open Go.RowKit Go.BigFrame

/-- The sum of two strings, byte by byte. -/
def psumS (s t : ByteArray) : ByteArray := pstrN ((List.range s.size).map fun k => byt s k ^^^ byt t k)
theorem sumS_size (s t : ByteArray) : (psumS s t).size = s.size := by rw [psumS, pstrN_size]; simp
theorem sumS_byt (s t : ByteArray) {k : Nat} (h : k < s.size) : byt (psumS s t) k = byt s k ^^^ byt t k := by
  unfold psumS
  rw [pstrN_byt _ (fun x hx => by
    obtain ⟨j, -, rfl⟩ := List.mem_map.1 hx
    exact Wm.xor_lt (byt_lt _ _) (byt_lt _ _)) (by simpa using h)]
  rw [List.getD_eq_getElem?_getD, List.getElem?_map, List.getElem?_range h]; rfl

def la : ByteArray := { data := #[97] }
def lb : ByteArray := { data := #[98] }
theorem okB_ab : okB [la, lb] := ⟨by decide, by decide, fun s hs => by simp at hs; rcases hs with rfl | rfl <;> decide⟩
theorem put_ab : pstrN ((List.range 1).map fun k => pc [la, lb] [] k 2) = { data := #[3] } ∧ pstrN ((List.range 1).map fun k => qc [la, lb] [] k 2) = pstrN [97 ^^^ Wm.fmul 2 98] := by
  refine ⟨?_, ?_⟩
  · have : ((List.range 1).map fun k => pc [la, lb] [] k 2) = [3] := by decide +kernel
    rw [this]; rfl
  · have : ((List.range 1).map fun k => qc [la, lb] [] k 2) = [97 ^^^ Wm.fmul 2 98] := by decide +kernel
    rw [this]
theorem Put_ab (w : World) : Calls Try.prog 14 #[.slice (some ⟨w.heap.size, 0, none⟩) 2 2] (w.alloc (.cells #[.string { data := #[97] }, .string { data := #[98] }] 9)) fun e w' =>
    e = .returned (.tuple #[.string { data := #[3] }, .string (pstrN [97 ^^^ Wm.fmul 2 98]), .int .i64 0]) ∧ Ext (w.alloc (.cells #[.string { data := #[97] }, .string { data := #[98] }] 9)) w' := by
  refine (pPut_any (some ⟨w.heap.size, 0, none⟩) 2 2 [la, lb] (w.alloc (.cells #[.string { data := #[97] }, .string { data := #[98] }] 9)) (row_new w _ _ 2 1 rfl) (by omega) (fun s hs => by simp at hs; rcases hs with rfl | rfl <;> decide)).mono ?_
  rintro e w' ⟨h | ⟨h, -⟩, E⟩
  · refine ⟨?_, E⟩
    rw [h.2]
    unfold PutOk
    have h1 : ([la, lb].getD 0 ByteArray.empty).size = 1 := by decide
    rw [h1]
    show Ending.returned (.tuple #[.string (pstrN ((List.range 1).map fun k => pc [la, lb] [] k 2)), .string (pstrN ((List.range 1).map fun k => qc [la, lb] [] k 2)), .int .i64 0]) = _
    rw [put_ab.1, put_ab.2]
  · exact absurd okB_ab h

set_option maxRecDepth 100000 in
theorem pairs_any (w : World) : Calls Try.prog 5 #[] w fun e w' => e = .returned (.bool true) ∧ Ext w w' := by
  have C1 := hide Put_ab
  have C2 := hide (fun w : World => Mul_any 2 98 (by omega) (by omega) w)
  have hv : Wm.fmul 2 98 < 256 := Wm.fmul_lt (by omega) (by omega)
  have hX := u8_xor_nat 97 (Wm.fmul 2 98) (by omega) hv
  have hbuf : ∀ (w : World) (x : Nat), PBuf (w.alloc (.cells #[.int .u8 (x : Int)] 5)) 0 w.heap.size (nats .u8 [x]) := fun w x => ⟨Nat.zero_le _, by simp, fun j hj => by
    obtain rfl : j = 0 := by simp [nats] at hj; omega
    simp [nats, go_sem]⟩
  have hcv : ∀ (w : World) (x c : Nat), (convert 47 9 (.slice (some ⟨w.heap.size, 0, none⟩) 1 c)).run Try.prog (w.alloc (.cells #[.int .u8 (x : Int)] 5)) = .ok (.string (pstrN [x])) (w.alloc (.cells #[.int .u8 (x : Int)] 5)) := fun w x c => (hbuf w x).str (P := Try.prog) Try.underlying47 Try.underlying5 Try.underlying9 c
  have hcv1 := fun w c => hcv w (97 ^^^ Wm.fmul 2 98) c
  have hX' : bits BinOp.xor IntKind.u8 97 ((Wm.fmul 2 98 : Nat) : Int) = ((97 ^^^ Wm.fmul 2 98 : Nat) : Int) := hX
  clear hbuf hcv hX
  generalize 97 ^^^ Wm.fmul 2 98 = z at *
  generalize Wm.fmul 2 98 = y at *
  go_enter Try.func5, Try.ntmps5
  go_wp2_with fail
  refine (unhide C1 w).mono ?_
  rintro e w1 ⟨rfl, E1⟩
  go_wp2_with fail
  refine (unhide C2 _).mono ?_
  rintro e w2 ⟨rfl, rfl⟩
  go_wp2
  go_ret
  exact ⟨rfl, (((Ext.refl w).alloc _).trans E1).alloc _⟩
end Go.Proofs.Ytkebldjepdhioaa

/-
  The contract of pair.Mend, where what it is given is in order.
-/
set_option linter.unusedVariables false
set_option linter.unusedSimpArgs false
namespace Go.Proofs.Ytkebldjepdhioaa
open Go.RowKit Go.BigFrame

/-- Places, as Go's numbers. -/
def li (l : List Nat) : List Int := l.map fun (x : Nat) => (x : Int)
theorem li_get (l : List Nat) {k : Nat} (h : k < l.length) : (li l).getD k 0 = ((l.getD k 0 : Nat) : Int) := by
  unfold li
  rw [List.getD_eq_getElem?_getD, List.getElem?_map, List.getD_eq_getElem?_getD, List.getElem?_eq_getElem h]; rfl
theorem li_length (l : List Nat) : (li l).length = l.length := by simp [li]
theorem mapr_get (f : Nat → Nat) {m k : Nat} (h : k < m) : ((List.range m).map f).getD k 0 = f k := by
  rw [List.getD_eq_getElem?_getD, List.getElem?_map, List.getElem?_range h]; rfl
/-- The lost ones: within, and not the same twice. -/
def okLost (lost : List Nat) (n : Nat) : Prop := lost.length ≤ 2 ∧ (∀ k, k < lost.length → lost.getD k 0 < n) ∧ ∀ k, k + 1 < lost.length → lost.getD (k + 1) 0 ≠ lost.getD k 0

set_option maxRecDepth 100000 in
set_option maxHeartbeats 1000000 in
theorem checkLost_ok (A : Option Addr) (n c m : Nat) (L : List ByteArray) (P Q : ByteArray) (B : Option Addr) (nl cl : Nat) (lost : List Nat) (w : World) (R : Row w A n 1 (strs L)) (RL : Row w B nl 1 (ints (li lost))) (hok : okB L) (hn : n ≤ 10) (hs : ∀ s ∈ L, (s.size : Int) ≤ 9223372036854775807)
    (hm : (L.getD 0 ByteArray.empty).size = m) (hP : P.size = m) (hQ : Q.size = m) (hl : okLost lost n) :
    Calls Try.prog 36 #[.slice A n c, .string P, .string Q, .slice B nl cl] w fun e w' => e = .returned (.int .i64 0) ∧ w' = w := by
  have CK := hide (pcheck_any A n c L w R (by omega) hs)
  have hlen := R.strN
  have hll : lost.length = nl := by have := RL.num; rw [li_length] at this; exact this
  have h1 : 1 ≤ n := by have := hok.1; omega
  obtain ⟨b, o, rfl, hb, hc0⟩ := R.str (k := 0) (by omega)
  rw [Nat.add_zero] at hc0
  have HOK := hide hok
  obtain ⟨l1, l2, l3⟩ := hl
  have HL2 := hide l2
  have HL3 := hide l3
  have hn2 : ¬ (2 : Int) < (nl : Int) := by omega
  have hnl : nl ≤ 2 := by omega
  have HLL := hide hll
  have HRL := hide RL
  have hPI : ((P.size : Int) != (m : Int)) = false := by rw [hP]; simp
  have hQI : ((Q.size : Int) != (m : Int)) = false := by rw [hQ]; simp
  have hPJ : (P.size : Int) = (m : Int) := by rw [hP]
  have hQJ : (Q.size : Int) = (m : Int) := by rw [hQ]
  generalize L.getD 0 ByteArray.empty = s0 at *
  have hsI : (s0.size : Int) = (m : Int) := by rw [hm]
  clear R RL hs hok l1 l2 l3 hll hP hQ hm hlen
  go_enter Try.func36, Try.ntmps36
  go_wp2_with fail
  refine (unhide CK).mono ?_
  rintro e w' ⟨⟨r, rfl, hr⟩, rfl⟩
  obtain rfl : r = 0 := by
    rcases hr with ⟨-, h⟩ | ⟨h, -⟩
    · exact h
    · exact absurd (unhide HOK) h
  clear hr CK
  go_wp2
  go_loopw [40] (fun i wr => ∃ k : Nat, k ≤ nl ∧ i = .int .i64 k ∧ wr = w') (fun i _ => nl - (intOf i).toNat)
  case atStart => exact ⟨0, Nat.zero_le _, rfl, rfl⟩
  case round =>
    obtain ⟨k, hk, rfl, rfl⟩ := hrel
    by_cases hlt : k < nl
    · obtain ⟨b2, o2, rfl, hb2, hc2⟩ := (unhide HRL).int hlt
      have hkl : k < lost.length := by have := unhide HLL; omega
      rw [li_get _ hkl] at hc2
      have hx := unhide HL2 k hkl
      have hx1 : ¬ ((lost.getD k 0 : Nat) : Int) < 0 := by omega
      have hx2 : ¬ (n : Int) ≤ ((lost.getD k 0 : Nat) : Int) := by omega
      by_cases hk0 : k = 0
      · have hk0I : ¬ (0 : Int) < (k : Int) := by omega
        have hk0N : ¬ 0 < k := by omega
        clear hk0
        generalize lost.getD k 0 = x at *
        clear HL2 HL3
        go_wp2
        go_roundw
        case rel => exact ⟨k + 1, by omega, by go_num, by first | rfl | trivial⟩
        case measure => simp [intOf]; omega
      · obtain ⟨j, rfl⟩ : ∃ j, k = j + 1 := ⟨k - 1, by omega⟩
        obtain ⟨b3, o3, e3, hb3, hc3⟩ := (unhide HRL).int (k := j) (by omega)
        injection e3 with e3
        injection e3 with e31 e32
        subst e31; subst e32
        rw [li_get _ (by omega)] at hc3
        have hne := unhide HL3 j hkl
        have hneI : (((lost.getD (j + 1) 0 : Nat) : Int) == ((lost.getD j 0 : Nat) : Int)) = false := by rw [beq_eq_false_iff_ne]; exact fun h => hne (by exact_mod_cast h)
        have hneJ : ¬ ((lost.getD (j + 1) 0 : Nat) : Int) = ((lost.getD j 0 : Nat) : Int) := fun h => hne (by exact_mod_cast h)
        have hw1 : IntKind.i64.wrap ((((j + 1 : Nat) : Int)) - 1) = (j : Int) := (IntWalk.i64_in _ (by omega)).trans (by omega)
        have hw2 : IntKind.i64.wrap (((j : Int) + 1) - 1) = (j : Int) := (IntWalk.i64_in _ (by omega)).trans (by omega)
        have hp0 : (0 : Int) < (j : Int) + 1 := by omega
        generalize lost.getD (j + 1) 0 = x at *
        generalize lost.getD j 0 = y at *
        clear HL2 HL3 hk0 hne
        go_wp2
        go_roundw
        case rel => exact ⟨j + 1 + 1, by omega, num_eqP (by omega), by first | rfl | trivial⟩
        case measure => simp [intOf]; omega
    · obtain rfl : k = nl := by omega
      clear HL2 HL3 HRL HLL
      go_wp2
      go_ret
      exact ⟨rfl, rfl⟩

/-- What is told of one place. -/
def mbad (lost : List Nat) (a b : Nat) : Bool := match lost with
  | [] => decide (a ≠ 0 ∨ b ≠ 0)
  | [i] => decide (Wm.fmul a (Wm.fpow 2 i) ≠ b)
  | _ => false
def mfst (lost : List Nat) (a b : Nat) : Nat := match lost with
  | [] => 0
  | [_] => a
  | i :: j :: _ => Wm.fmul (b ^^^ Wm.fmul a (Wm.fpow 2 j)) (Wm.fpow (Wm.fpow 2 i ^^^ Wm.fpow 2 j) 254)
def msnd (lost : List Nat) (a b : Nat) : Nat := match lost with
  | _ :: _ :: _ => a ^^^ mfst lost a b
  | _ => 0
/-- The blocks, with what is restored. -/
def mendT (L : List ByteArray) (lost : List Nat) (F S : ByteArray) : Nat → List ByteArray
  | 0 => L
  | t + 1 => if t < lost.length then (mendT L lost F S t).set (lost.getD t 0) (if t = 0 then F else S) else mendT L lost F S t
theorem mendT_length (L : List ByteArray) (lost : List Nat) (F S : ByteArray) : ∀ t, (mendT L lost F S t).length = L.length
  | 0 => rfl
  | t + 1 => by
    simp only [mendT]
    split
    · rw [List.length_set, mendT_length L lost F S t]
    · exact mendT_length L lost F S t

theorem set_self {l : List Nat} {k : Nat} (h : k < l.length) : l.set k (l.getD k 0) = l := by
  rw [List.getD_eq_getElem?_getD, List.getElem?_eq_getElem h]
  exact List.set_getElem_self h
theorem mix_skip (f g : Nat → Nat) {m k : Nat} (h : k < m) (e : g k = f k) : mix f g m (k + 1) = mix f g m k := by
  rw [← mix_set f g h, e, ← mix_get f g h]
  exact set_self (by rw [mix_length]; exact h)
theorem pow2_all : ((List.range 10).all fun i => (List.range 10).all fun j => i == j || Wm.fpow 2 i != Wm.fpow 2 j) = true := by decide +kernel
theorem pow2_ne {i j : Nat} (hi : i < 10) (hj : j < 10) (h : i ≠ j) : Wm.fpow 2 i ^^^ Wm.fpow 2 j ≠ 0 := fun e => by
  have h1 := List.all_eq_true.1 (List.all_eq_true.1 pow2_all i (List.mem_range.2 hi)) j (List.mem_range.2 hj)
  have h2 : Wm.fpow 2 i = Wm.fpow 2 j := by
    have : (Wm.fpow 2 i ^^^ Wm.fpow 2 j) ^^^ Wm.fpow 2 j = 0 ^^^ Wm.fpow 2 j := by rw [e]
    rwa [Nat.xor_assoc, Nat.xor_self, Nat.xor_zero, Nat.zero_xor] at this
  simp [h, h2] at h1


set_option maxRecDepth 100000 in
set_option maxHeartbeats 1000000 in
theorem clone_str (A : Option Addr) (n c : Nat) (xs : List Value) (w : World) (R : Row w A n 1 xs) (h1 : ∀ u ∈ xs, u.oneCell' = true) (hb : n * 16 ≤ 140737488355328) (hnil : A = none → n = 0 ∧ c = 0) :
    Calls Try.prog 9 #[.slice A n c] w fun e w' => (∃ v, e = .returned v ∧ w'.ownsRow w.heap.size 9 1 v n xs) ∧ Ext w w' := by
  have hi0 : (Try.prog.info? 9).map (fun i => (i.zero, i.size, i.bytes)) = some (some (.string ByteArray.empty), 1, 16) := by kernel_rfl
  obtain ⟨i0, hi, hz0, hz1, hz2⟩ := info_parts hi0
  cases A with
  | none =>
    obtain ⟨rfl, rfl⟩ := hnil rfl
    obtain rfl := R.empty
    have heq := fun w : World => Lib.run_eql_slice_nil w 23 9 none 0 0 0 0 Try.underlying23
    go_enter Try.func9, Try.ntmps9
    go_wp2
    go_ret
    exact ⟨⟨_, rfl, World.ownsRow_nil _ _ _ _⟩, Ext.refl _⟩
  | some ad =>
    have heq := fun w : World => Lib.run_eql_slice_nil w 23 9 (some ad) n c 0 0 Try.underlying23
    have hr := R.2
    have hl := R.1
    have hown := World.ownsRow_lit (base := w.heap.size) (e := 9) (size := 1) w #[] 0 (Nat.le_refl _) (by unfold maxLen; omega) rfl
    have HR := hide hr
    have HL := hide hl
    clear R hnil hr hl
    go_enter Try.func9, Try.ntmps9
    go_wp2_with (at_builtin; refine wpList_append_own _ rfl _ _ 23 rfl w.heap.size 9 i0 (.string ByteArray.empty) 1 16 Try.underlying23 hi hz0 hz1 hz2 rfl (by decide) _ _ _ rfl hown ad n c xs rfl (unhide HL) ?c1 h1 (by unfold maxLen; omega) (by omega) (by simp) ?_)
    case c1 =>
      intro j u hj
      have hjn : j < n * 1 := by
        have := (List.getElem?_eq_some_iff.1 hj).1
        have := unhide HL
        omega
      obtain ⟨b, o, e, hb, hc⟩ := unhide HR (by omega)
      injection e with e
      subst e
      have hj' := (hc j hjn).trans hj
      have : (⟨b, o, none⟩ : Addr).add j = ⟨b, o + j, none⟩ := by
        unfold Addr.add
        split
        · rename_i h0; simp [h0]
        · rfl
      rw [this]
      exact (World.cell?_alloc_lt _ _ _ hb).trans hj'
    intro v' w' hown' hgrow _
    have hown2 : w'.ownsRow w.heap.size 9 1 v' n xs := by simpa using hown'
    have E1 : Ext w w' := ((Ext.refl w).alloc _).grown hgrow (fun q hq => by simp [Value.ownBlock] at hq; omega)
    clear hgrow
    go_wp2
    go_ret
    exact ⟨⟨_, rfl, hown2⟩, E1⟩

theorem clip_str (A : Option Addr) (n c : Nat) (w : World) (h1 : n ≤ c) (h2 : (c : Int) ≤ 9223372036854775807) (hA : A = none → n = 0 ∧ c = 0) :
    Calls Try.prog 39 #[.slice A n c] w fun e w' => e = .returned (.slice A n n) ∧ w' = w := by
  have h3 : (n : Int) ≤ (c : Int) := by omega
  cases A with
  | none =>
    obtain ⟨rfl, rfl⟩ := hA rfl
    go_enter Try.func39, Try.ntmps39
    go_wp2
    go_ret
    exact ⟨rfl, rfl⟩
  | some a =>
    clear hA
    go_enter Try.func39, Try.ntmps39
    go_wp2
    go_ret
    exact ⟨rfl, rfl⟩


def MendPost (L : List ByteArray) (P Q : ByteArray) (lost : List Nat) (n m : Nat) (w w' : World) (e : Ending) : Prop :=
  ((∃ k, k < m ∧ mbad lost (pc L (li lost) k n ^^^ byt P k) (qc L (li lost) k n ^^^ byt Q k) = true) ∧ e = .returned (.tuple #[.slice none 0 0, .int .i64 8])) ∨
  ((∀ k, k < m → mbad lost (pc L (li lost) k n ^^^ byt P k) (qc L (li lost) k n ^^^ byt Q k) = false) ∧ ∃ A, e = .returned (.tuple #[.slice A n n, .int .i64 0]) ∧
    Made w' w.heap.size 9 1 (.slice A n n) n (strs (mendT L lost (pstrN ((List.range m).map fun k => mfst lost (pc L (li lost) k n ^^^ byt P k) (qc L (li lost) k n ^^^ byt Q k))) (pstrN ((List.range m).map fun k => msnd lost (pc L (li lost) k n ^^^ byt P k) (qc L (li lost) k n ^^^ byt Q k))) 2)))
set_option maxRecDepth 100000 in
set_option maxHeartbeats 8000000 in
theorem Mend_ok (A : Option Addr) (n c m : Nat) (L : List ByteArray) (P Qs : ByteArray) (B : Option Addr) (nl cl : Nat) (lost : List Nat) (w : World) (R : Row w A n 1 (strs L)) (RL : Row w B nl 1 (ints (li lost))) (hok : okB L) (hn : n ≤ 10)
    (hm : (L.getD 0 ByteArray.empty).size = m) (hP : P.size = m) (hQ : Qs.size = m) (hl : okLost lost n) :
    Calls Try.prog 15 #[.slice A n c, .string P, .string Qs, .slice B nl cl] w fun e w' => MendPost L P Qs lost n m w w' e ∧ Ext w w' := by
  have hlen := R.strN
  have hll : lost.length = nl := by have := RL.num; rw [li_length] at this; exact this
  have h1 : 1 ≤ n := by have := hok.1; omega
  have hnl : nl ≤ 2 := by have := hl.1; omega
  have hall : ∀ i, i < n → (L.getD i ByteArray.empty).size = m := fun i hi => by rw [← hm]; exact (hok.2.2 _ (getD_mem L ByteArray.empty (show i < L.length by omega))).2
  have hm64 : m ≤ 64 := by rw [← hm]; exact (hok.2.2 _ (getD_mem L ByteArray.empty (show 0 < L.length by omega))).1
  have CK := hide (checkLost_ok A n c m L P Qs B nl cl lost w R RL hok hn (fun s hs => by have := (hok.2.2 s hs).1; omega) hm hP hQ hl)
  obtain ⟨ad, had⟩ : ∃ ad, A = some ad := by
    obtain ⟨b, o, h, -⟩ := R.2 (by omega)
    exact ⟨_, h⟩
  subst had
  have CC := hide (fun (w' : World) (E : Ext w w') => clone_str (some ad) n c (strs L) w' (R.keep E) (strs_one L) (by omega) (fun h => by cases h))
  have CS := hide (fun (w' : World) (E : Ext w w') => sums_any (some ad) n c m L B nl cl (li lost) w' (R.keep E) (RL.keep E) (by omega) h1 hn hm64 hall)
  have HRL := hide RL
  obtain ⟨l1, l2, l3⟩ := hl
  have HL2 := hide l2
  have HL3 := hide l3
  have HLL := hide hll
  obtain ⟨xx, hxx⟩ : ∃ f : Nat → Nat, f = fun k => pc L (li lost) k n := ⟨_, rfl⟩
  obtain ⟨yy, hyy⟩ : ∃ f : Nat → Nat, f = fun k => qc L (li lost) k n := ⟨_, rfl⟩
  obtain ⟨aa, haa⟩ : ∃ f : Nat → Nat, f = fun k => xx k ^^^ byt P k := ⟨_, rfl⟩
  obtain ⟨bb, hbb⟩ : ∃ f : Nat → Nat, f = fun k => yy k ^^^ byt Qs k := ⟨_, rfl⟩
  obtain ⟨ff, hff⟩ : ∃ f : Nat → Nat, f = fun k => mfst lost (aa k) (bb k) := ⟨_, rfl⟩
  obtain ⟨ss, hss⟩ : ∃ f : Nat → Nat, f = fun k => msnd lost (aa k) (bb k) := ⟨_, rfl⟩
  have HXL := hide (show ∀ k, xx k < 256 from fun k => by rw [hxx]; exact pc_lt _ _ _ _)
  have HYL := hide (show ∀ k, yy k < 256 from fun k => by rw [hyy]; exact qc_lt _ _ _ _)
  have HPOST : Hid (∀ (w' : World) (e : Ending), (((∃ k, k < m ∧ mbad lost (aa k) (bb k) = true) ∧ e = .returned (.tuple #[.slice none 0 0, .int .i64 8])) ∨
    ((∀ k, k < m → mbad lost (aa k) (bb k) = false) ∧ ∃ A, e = .returned (.tuple #[.slice A n n, .int .i64 0]) ∧ Made w' w.heap.size 9 1 (.slice A n n) n (strs (mendT L lost (pstrN ((List.range m).map ff)) (pstrN ((List.range m).map ss)) 2)))) → MendPost L P Qs lost n m w w' e) := hide fun w' e h => by
      rw [hff, hss, haa, hbb, hxx, hyy] at h
      exact h
  rw [← hlen] at hxx hyy
  have HXX := hide hxx
  have HYY := hide hyy
  have hff := hide (show ∀ k, ff k = mfst lost (aa k) (bb k) from fun k => by rw [hff])
  have hss := hide (show ∀ k, ss k = msnd lost (aa k) (bb k) from fun k => by rw [hss])
  have haa := hide (show ∀ k, aa k = xx k ^^^ byt P k from fun k => by rw [haa])
  have hbb := hide (show ∀ k, bb k = yy k ^^^ byt Qs k from fun k => by rw [hbb])
  have hmk : ∀ w : World, (Instr.makeSlice 47 (.int .i64 (m : Int)) (.int .i64 (m : Int))).run Try.prog w = .ok (.slice (some ⟨w.heap.size, 0, none⟩) m m) (w.alloc (.cells (madeCells #[.int .u8 0] m) 5)) := fun w => by
    have := make_run byteI m m (Nat.le_refl _) (by omega) (by omega) w
    rw [Nat.mul_one] at this
    exact this
  clear R RL hok hall hm l1 l2 l3 hll hxx hyy
  go_enter Try.func15, Try.ntmps15
  go_wp2_with fail
  refine (unhide CK).mono ?_
  rintro e w ⟨rfl, rfl⟩
  clear CK
  go_wp2_with fail
  refine (unhide CC w (Ext.refl _)).mono ?_
  rintro e w1 ⟨⟨vO, rfl, hown⟩, E1⟩
  have MO := Made.of_own hown
  obtain ⟨gO, cO, rfl, hgO⟩ : ∃ g c, vO = .slice (some ⟨g, 0, none⟩) n c ∧ w.heap.size ≤ g := by
    rcases MO.2 with ⟨-, h⟩ | ⟨g, c, cur, hv, hg, -⟩
    · omega
    · exact ⟨g, c, hv, hg⟩
  have hcO : n ≤ cO ∧ (cO : Int) ≤ 9223372036854775807 := by
    obtain ⟨A', c', hv, -, h1, h2, -⟩ := MO.open_
    injection hv with _ _ hv
    subst hv
    unfold maxLen at h2
    omega
  clear CC hown
  go_wp2_with fail
  refine (unhide CS w1 E1).mono ?_
  rintro e W0 ⟨⟨gx, gy, -, rfl, MX, MY⟩, E2⟩
  rw [← unhide HXX] at MX
  rw [← unhide HYY] at MY
  have HX := hide MX
  have HY := hide MY
  have HO := hide (MO.keep E2)
  have E0 := E1.trans E2
  have hgO2 : gO < W0.heap.size := by
    have := (MO.lt gO rfl).2
    have := E2.size
    omega
  clear CS MX MY MO E1 E2 HXX HYY hlen
  obtain ⟨Q, hQ'⟩ : ∃ Q : Obj, Q = .cells (madeCells #[.int .u8 0] m) 5 := ⟨_, rfl⟩
  have M0 : Made ((W0.alloc Q).alloc Q).drew W0.heap.size 5 1 (.slice (some ⟨W0.heap.size, 0, none⟩) m m) m (List.replicate m (.int .u8 0)) := by
    rw [hQ']
    exact (Made.make (w := W0) (base := W0.heap.size) (e := 5) (.int .u8 0) m (Nat.le_refl _) (by omega)).keep (((Ext.refl _).alloc _).drew)
  have M1 : Made ((W0.alloc Q).alloc Q).drew W0.heap.size 5 1 (.slice (some ⟨W0.heap.size + 1, 0, none⟩) m m) m (List.replicate m (.int .u8 0)) := by
    rw [hQ']
    have := (Made.make (w := W0.alloc (.cells (madeCells #[.int .u8 0] m) 5)) (base := W0.heap.size) (e := 5) (.int .u8 0) m (by simp) (by omega)).keep ((Ext.refl _).drew)
    simpa using this
  have HM0 := hide M0
  have HM1 := hide M1
  have HQ := hide hQ'
  have EW : Ext W0 ((W0.alloc Q).alloc Q).drew := (((Ext.refl W0).alloc _).alloc _).drew
  clear M0 M1 hQ'
  go_upto_region 6 with fail
  go_region_held3 (fun _ => True) (trivial) (fail)
  all_goals rw [← unhide HQ]
  · obtain ⟨gF, hgF⟩ : ∃ g, g = W0.heap.size := ⟨_, rfl⟩
    obtain ⟨gS, hgS⟩ : ∃ g, g = W0.heap.size + 1 := ⟨_, rfl⟩
    have hg4 : W0.heap.size ≤ gF ∧ W0.heap.size ≤ gS ∧ gF ≠ gS := by omega
    have MF : Made ((W0.alloc Q).alloc Q).drew W0.heap.size 5 1 (.slice (some ⟨gF, 0, none⟩) m m) m (nats .u8 (mix (fun _ => 0) ff m 0)) := by
      rw [mix_zero, ← zerosP m _ (fun _ => rfl), hgF]; exact unhide HM0
    have MS : Made ((W0.alloc Q).alloc Q).drew W0.heap.size 5 1 (.slice (some ⟨gS, 0, none⟩) m m) m (nats .u8 (mix (fun _ => 0) ss m 0)) := by
      rw [mix_zero, ← zerosP m _ (fun _ => rfl), hgS]; exact unhide HM1
    first | rw [← hgF, ← hgS] | rw [← hgS, ← hgF]
    generalize ((W0.alloc Q).alloc Q).drew = W at *
    have HMF := hide MF
    have HMS := hide MS
    clear hgF hgS HM0 HM1 HQ MF MS
    go_wp2
    go_loopw [49] (fun i wr => ∃ k : Nat, k ≤ m ∧ i = .int .i64 k ∧ Hid (Made wr W0.heap.size 5 1 (.slice (some ⟨gF, 0, none⟩) m m) m (nats .u8 (mix (fun _ => 0) ff m k))) ∧
      Hid (Made wr W0.heap.size 5 1 (.slice (some ⟨gS, 0, none⟩) m m) m (nats .u8 (mix (fun _ => 0) ss m k))) ∧ Hid (∀ j, j < k → mbad lost (aa j) (bb j) = false) ∧ Ext W0 wr) (fun i _ => m - (intOf i).toNat)
    case atStart => exact ⟨0, Nat.zero_le _, rfl, HMF, HMS, hide (fun j h => by omega), EW⟩
    case round =>
      clear HMF HMS EW
      obtain ⟨k, hk, rfl, HMF, HMS, hbad, hext⟩ := hrel
      by_cases hlt : k < m
      · have hcx := ((unhide HX).keep hext).nat hlt
        have hcy := ((unhide HY).keep hext).nat hlt
        rw [mapr_get _ hlt] at hcx hcy
        have hbP := byt_get P k (by omega)
        have hbQ := byt_get Qs k (by omega)
        have hkP : (k : Int) < (P.size : Int) := by omega
        have hkQ : (k : Int) < (Qs.size : Int) := by omega
        have hk0 : (0 : Int) ≤ (k : Int) := by omega
        have hkm : (k : Int) < (m : Int) := by omega
        have hx1 := u8_xor_nat (xx k) (byt P k) (unhide HXL k) (byt_lt _ _)
        have hx2 := u8_xor_nat (yy k) (byt Qs k) (unhide HYL k) (byt_lt _ _)
        have ha : aa k < 256 := by rw [unhide haa k]; exact Wm.xor_lt (unhide HXL k) (byt_lt _ _)
        have hb : bb k < 256 := by rw [unhide hbb k]; exact Wm.xor_lt (unhide HYL k) (byt_lt _ _)
        have hsF := mix_set (fun _ => 0) ff hlt
        have hsS := mix_set (fun _ => 0) ss hlt
        have HFF := hide (unhide hff k)
        have HSS := hide (unhide hss k)
        have hnext : Hid (∀ (_ : mbad lost (aa k) (bb k) = false), ∀ j, j < k + 1 → mbad lost (aa j) (bb j) = false) := hide fun h j hj => by
          by_cases hjk : j < k
          · exact unhide hbad j hjk
          · obtain rfl : j = k := by omega
            exact h
        have hstop : Hid (∀ (_ : mbad lost (aa k) (bb k) = true), ∃ j, j < m ∧ mbad lost (aa j) (bb j) = true) := hide fun h => ⟨k, hlt, h⟩
        have hax := unhide haa k
        have hbx := unhide hbb k
        rw [← hax] at hx1
        rw [← hbx] at hx2
        have HSF := hide hsF
        have HSS2 := hide hsS
        clear hax hbx hsF hsS
        generalize aa k = a at *
        generalize bb k = b at *
        generalize xx k = x0 at *
        generalize yy k = y0 at *
        generalize byt P k = p0 at *
        generalize byt Qs k = q0 at *
        go_upto_region 10 with fail
        go_quiet (fail)
        have EK := hext.drewN nq
        have HMF := hide ((unhide HMF).keep ((Ext.refl wr).drewN nq))
        have HMS := hide ((unhide HMS).keep ((Ext.refl wr).drewN nq))
        clear hcx hcy hbP hbQ hx1 hx2 hext
        generalize wr.drewN nq = w5 at *
        have hcF := (unhide HMF).nat (k := k) hlt
        rw [mix_get _ _ hlt] at hcF
        have hfF := (unhide HMF).frozen k
        have hcS := (unhide HMS).nat (k := k) hlt
        rw [mix_get _ _ hlt] at hcS
        have hfS := (unhide HMS).frozen k
        rcases lost with _ | ⟨i0, _ | ⟨i1, _ | _⟩⟩
        · have hnl0 : nl = 0 := by have := unhide HLL; simpa using this.symm
          subst hnl0
          have HMF2 : Hid (Made w5 W0.heap.size 5 1 (.slice (some ⟨gF, 0, none⟩) m m) m (nats .u8 (mix (fun _ => 0) ff m (k + 1)))) := hide (by rw [mix_skip _ _ hlt (unhide HFF)]; exact unhide HMF)
          have HMS2 : Hid (Made w5 W0.heap.size 5 1 (.slice (some ⟨gS, 0, none⟩) m m) m (nats .u8 (mix (fun _ => 0) ss m (k + 1)))) := hide (by rw [mix_skip _ _ hlt (unhide HSS)]; exact unhide HMS)
          clear HMF HMS hcF hfF hcS hfS HFF HSS HSF HSS2
          by_cases ha0 : a = 0
          · by_cases hb0 : b = 0
            · have hn2 := hide (unhide hnext (by simp [mbad, ha0, hb0]))
              subst ha0; subst hb0
              go_wp2
              go_roundw
              case rel => exact ⟨k + 1, by omega, by go_num, HMF2, HMS2, hn2, EK⟩
              case measure => simp [intOf]; omega
            · have hp := unhide hstop (by simp [mbad, hb0])
              have HP := hide hp
              have hbI : ((b : Int) != 0) = true := by rw [bne_iff_ne]; omega
              clear hp hstop hnext
              subst ha0
              go_wp2
              go_ret2
              exact ⟨unhide HPOST _ _ (.inl ⟨unhide HP, rfl⟩), E0.trans EK⟩
          · have hp := unhide hstop (by simp [mbad, ha0])
            have HP := hide hp
            have haI : ((a : Int) != 0) = true := by rw [bne_iff_ne]; omega
            clear hp hstop hnext
            go_wp2
            go_ret2
            exact ⟨unhide HPOST _ _ (.inl ⟨unhide HP, rfl⟩), E0.trans EK⟩
        · have hnl1 : nl = 1 := by have := unhide HLL; simpa using this.symm
          subst hnl1
          have hi0 := unhide HL2 0 (by simp)
          have hi0 : i0 < n := by simpa using hi0
          obtain ⟨bl, ol, rfl, hbl, hcl⟩ := ((unhide HRL).keep (E0.trans EK)).int (k := 0) (by omega)
          rw [Nat.add_zero, li_get [i0] (show 0 < [i0].length by simp)] at hcl
          have hcl : w5.cell? ⟨bl, ol, none⟩ = some (.int .i64 (i0 : Int)) := by simpa using hcl
          have CWt := hide (fun w : World => weight_ok i0 (by omega) w)
          have hg : Wm.fpow 2 i0 < 256 := Wm.fpow_lt (by omega) i0
          have CMu := hide (fun w : World => Mul_any a (Wm.fpow 2 i0) ha hg w)
          have HFF2 : Hid (ff k = a) := hide (unhide HFF)
          have HMB := hide (show mbad [i0] a b = decide (Wm.fmul a (Wm.fpow 2 i0) ≠ b) from rfl)
          have hz := Wm.fmul_lt ha hg
          generalize Wm.fmul a (Wm.fpow 2 i0) = z at *
          generalize Wm.fpow 2 i0 = gg at *
          have HMS2 : Hid (Made w5 W0.heap.size 5 1 (.slice (some ⟨gS, 0, none⟩) m m) m (nats .u8 (mix (fun _ => 0) ss m (k + 1)))) := hide (by rw [mix_skip _ _ hlt (unhide HSS)]; exact unhide HMS)
          clear HMS hcS hfS HSS HSS2 HFF hi0
          go_wp2_with fail
          refine (unhide CWt _).mono ?_
          rintro e w5 ⟨rfl, rfl⟩
          go_wp2_with fail
          refine (unhide CMu _).mono ?_
          rintro e w5 ⟨rfl, rfl⟩
          by_cases hzb : z = b
          · have hn2 := hide (unhide hnext (by rw [unhide HMB]; simp [hzb]))
            subst hzb
            have HMF2 : Hid (Made (w5.setCell ⟨gF, k, none⟩ (.int .u8 (a : Int))) W0.heap.size 5 1 (.slice (some ⟨gF, 0, none⟩) m m) m (nats .u8 (mix (fun _ => 0) ff m (k + 1)))) := hide (by
              have h1 := (unhide HMF).set (j := k) (by omega) (.int .u8 (a : Int))
              have h2 := unhide HSF
              rw [unhide HFF2] at h2
              rw [nats_set, h2] at h1
              exact h1)
            have HMS3 := hide ((unhide HMS2).other (p := ⟨gF, k, none⟩) (by simp [Value.ownBlock]; omega) (.int .u8 (a : Int)))
            have EK2 := EK.setCell (p := ⟨gF, k, none⟩) hg4.1 (.int .u8 (a : Int))
            clear HMF HMS2 HSF HFF2 HMB hstop hnext
            go_wp2
            go_roundw
            case rel => exact ⟨k + 1, by omega, by go_num, HMF2, HMS3, hn2, EK2⟩
            case measure => simp [intOf]; omega
          · have hp := unhide hstop (by rw [unhide HMB]; simp [hzb])
            have HP := hide hp
            have hzI : ((z : Int) != (b : Int)) = true := by rw [bne_iff_ne]; omega
            clear hp hstop hnext
            go_wp2
            go_ret2
            exact ⟨unhide HPOST _ _ (.inl ⟨unhide HP, rfl⟩), E0.trans EK⟩
        · have hnl2 : nl = 2 := by have := unhide HLL; simpa using this.symm
          subst hnl2
          have hi0 : i0 < n := by simpa using unhide HL2 0 (by simp)
          have hi1 : i1 < n := by simpa using unhide HL2 1 (by simp)
          have hij : i1 ≠ i0 := by simpa using unhide HL3 0 (by simp)
          obtain ⟨bl, ol, rfl, hbl, hcl0⟩ := ((unhide HRL).keep (E0.trans EK)).int (k := 0) (by omega)
          obtain ⟨bl', ol', e1, -, hcl1⟩ := ((unhide HRL).keep (E0.trans EK)).int (k := 1) (by omega)
          injection e1 with e1
          injection e1 with e11 e12
          subst e11; subst e12
          rw [Nat.add_zero, li_get [i0, i1] (show 0 < [i0, i1].length by simp)] at hcl0
          rw [li_get [i0, i1] (show 1 < [i0, i1].length by simp)] at hcl1
          have hcl0 : w5.cell? ⟨bl, ol, none⟩ = some (.int .i64 (i0 : Int)) := by simpa using hcl0
          have hcl1 : w5.cell? ⟨bl, ol + 1, none⟩ = some (.int .i64 (i1 : Int)) := by simpa using hcl1
          have CW0 := hide (fun w : World => weight_ok i0 (by omega) w)
          have CW1 := hide (fun w : World => weight_ok i1 (by omega) w)
          have hg0 : Wm.fpow 2 i0 < 256 := Wm.fpow_lt (by omega) i0
          have hg1 : Wm.fpow 2 i1 < 256 := Wm.fpow_lt (by omega) i1
          have hne := pow2_ne (i := i0) (j := i1) (by omega) (by omega) (fun e => hij e.symm)
          have hx3 := u8_xor_nat (Wm.fpow 2 i0) (Wm.fpow 2 i1) hg0 hg1
          have hlt3 := Wm.xor_lt hg0 hg1
          have CI := hide (fun w : World => Inv_ok (Wm.fpow 2 i0 ^^^ Wm.fpow 2 i1) hne hlt3 w)
          have hv := Wm.fpow_lt hlt3 254
          have Cm1 := hide (fun w : World => Mul_any a (Wm.fpow 2 i1) ha hg1 w)
          have hz1 := Wm.fmul_lt ha hg1
          have hx4 := u8_xor_nat b (Wm.fmul a (Wm.fpow 2 i1)) hb hz1
          have hlt4 := Wm.xor_lt hb hz1
          have Cm2 := hide (fun w : World => Mul_any (b ^^^ Wm.fmul a (Wm.fpow 2 i1)) (Wm.fpow (Wm.fpow 2 i0 ^^^ Wm.fpow 2 i1) 254) hlt4 hv w)
          have hff2 := Wm.fmul_lt hlt4 hv
          have HFF2 : Hid (ff k = Wm.fmul (b ^^^ Wm.fmul a (Wm.fpow 2 i1)) (Wm.fpow (Wm.fpow 2 i0 ^^^ Wm.fpow 2 i1) 254)) := hide (unhide HFF)
          have HSS3 : Hid (ss k = a ^^^ Wm.fmul (b ^^^ Wm.fmul a (Wm.fpow 2 i1)) (Wm.fpow (Wm.fpow 2 i0 ^^^ Wm.fpow 2 i1) 254)) := hide (unhide HSS)
          have hx5 := u8_xor_nat a (Wm.fmul (b ^^^ Wm.fmul a (Wm.fpow 2 i1)) (Wm.fpow (Wm.fpow 2 i0 ^^^ Wm.fpow 2 i1) 254)) ha hff2
          have hn2 := hide (unhide hnext rfl)
          generalize Wm.fmul (b ^^^ Wm.fmul a (Wm.fpow 2 i1)) (Wm.fpow (Wm.fpow 2 i0 ^^^ Wm.fpow 2 i1) 254) = f at *
          generalize b ^^^ Wm.fmul a (Wm.fpow 2 i1) = z2 at *
          generalize Wm.fmul a (Wm.fpow 2 i1) = z1 at *
          generalize Wm.fpow (Wm.fpow 2 i0 ^^^ Wm.fpow 2 i1) 254 = v at *
          generalize Wm.fpow 2 i0 ^^^ Wm.fpow 2 i1 = g01 at *
          generalize Wm.fpow 2 i0 = g0 at *
          generalize Wm.fpow 2 i1 = g1 at *
          generalize a ^^^ f = sv at *
          have HMF2 : Hid (Made ((w5.setCell ⟨gF, k, none⟩ (.int .u8 (f : Int))).setCell ⟨gS, k, none⟩ (.int .u8 (sv : Int))) W0.heap.size 5 1 (.slice (some ⟨gF, 0, none⟩) m m) m (nats .u8 (mix (fun _ => 0) ff m (k + 1)))) := hide (by
            have h1 := (unhide HMF).set (j := k) (by omega) (.int .u8 (f : Int))
            have h2 := unhide HSF
            rw [unhide HFF2] at h2
            rw [nats_set, h2] at h1
            exact h1.other (p := ⟨gS, k, none⟩) (by simp [Value.ownBlock]; omega) _)
          have HMS2 : Hid (Made ((w5.setCell ⟨gF, k, none⟩ (.int .u8 (f : Int))).setCell ⟨gS, k, none⟩ (.int .u8 (sv : Int))) W0.heap.size 5 1 (.slice (some ⟨gS, 0, none⟩) m m) m (nats .u8 (mix (fun _ => 0) ss m (k + 1)))) := hide (by
            have h1 := ((unhide HMS).other (p := ⟨gF, k, none⟩) (by simp [Value.ownBlock]; omega) (.int .u8 (f : Int))).set (j := k) (by omega) (.int .u8 (sv : Int))
            have h2 := unhide HSS2
            rw [unhide HSS3] at h2
            rw [nats_set, h2] at h1
            exact h1)
          have EK2 := (EK.setCell (p := ⟨gF, k, none⟩) hg4.1 (.int .u8 (f : Int))).setCell (p := ⟨gS, k, none⟩) hg4.2.1 (.int .u8 (sv : Int))
          have nF : ¬ gF = gS := hg4.2.2
          have nS : ¬ gS = gF := fun e => hg4.2.2 e.symm
          clear HMF HMS HSF HSS2 HFF2 HSS3 HFF HSS hstop hnext hij hi0 hi1 hne
          go_wp2
          go_quiet ((first | (go_at_call 37; with_reducible exact Calls.quiet_of_same (unhide CW0 _)) | (go_at_call 37; with_reducible exact Calls.quiet_of_same (unhide CW1 _))))
          have HMF3 := hide (show Made (((w5.drewN nq).setCell ⟨gF, k, none⟩ (.int .u8 (f : Int))).setCell ⟨gS, k, none⟩ (.int .u8 (sv : Int))) W0.heap.size 5 1 (.slice (some ⟨gF, 0, none⟩) m m) m (nats .u8 (mix (fun _ => 0) ff m (k + 1))) from unhide HMF2)
          have HMS3 := hide (show Made (((w5.drewN nq).setCell ⟨gF, k, none⟩ (.int .u8 (f : Int))).setCell ⟨gS, k, none⟩ (.int .u8 (sv : Int))) W0.heap.size 5 1 (.slice (some ⟨gS, 0, none⟩) m m) m (nats .u8 (mix (fun _ => 0) ss m (k + 1))) from unhide HMS2)
          have EK3 : Ext W0 (((w5.drewN nq).setCell ⟨gF, k, none⟩ (.int .u8 (f : Int))).setCell ⟨gS, k, none⟩ (.int .u8 (sv : Int))) := ((EK.drewN nq).setCell (p := ⟨gF, k, none⟩) hg4.1 (.int .u8 (f : Int))).setCell (p := ⟨gS, k, none⟩) hg4.2.1 (.int .u8 (sv : Int))
          clear HMF2 HMS2 EK2
          go_wp2_with fail
          refine (unhide CI _).mono ?_
          rintro e wx ⟨rfl, rfl⟩
          go_wp2_with fail
          refine (unhide Cm1 _).mono ?_
          rintro e wx ⟨rfl, rfl⟩
          go_wp2_with fail
          refine (unhide Cm2 _).mono ?_
          rintro e wx ⟨rfl, rfl⟩
          go_wp2
          go_roundw
          case rel => exact ⟨k + 1, by omega, by go_num, HMF3, HMS3, hn2, EK3⟩
          case measure => simp [intOf]; omega
        · exact absurd (unhide HLL) (by simp; omega)
      · obtain rfl : k = m := by omega
        obtain ⟨w4, hw4⟩ : ∃ w4, w4 = wr := ⟨_, rfl⟩
        subst hw4
        obtain ⟨FF, hFF⟩ : ∃ FF, FF = (List.range k).map ff := ⟨_, rfl⟩
        obtain ⟨SS, hSS⟩ : ∃ SS, SS = (List.range k).map ss := ⟨_, rfl⟩
        rw [mix_all, ← hFF] at HMF
        rw [mix_all, ← hSS] at HMS
        rw [← hFF, ← hSS] at HPOST
        have hFl : FF.length = k := by rw [hFF]; simp
        have hSl : SS.length = k := by rw [hSS]; simp
        have HFL := hide hFl
        have HSL := hide hSl
        have HO4 : Hid (Made (w4.alloc (.cells #[.slice (some ⟨gF, 0, none⟩) k k, .slice (some ⟨gS, 0, none⟩) k k] 47)) w.heap.size 9 1 (.slice (some ⟨gO, 0, none⟩) n cO) n (strs (mendT L lost (pstrN FF) (pstrN SS) 0))) := hide (((unhide HO).keep hext).keep ((Ext.refl _).alloc _))
        have HB4 : Hid (PBuf (w4.alloc (.cells #[.slice (some ⟨gF, 0, none⟩) k k, .slice (some ⟨gS, 0, none⟩) k k] 47)) 0 gF (nats .u8 FF) ∧ PBuf (w4.alloc (.cells #[.slice (some ⟨gF, 0, none⟩) k k, .slice (some ⟨gS, 0, none⟩) k k] 47)) 0 gS (nats .u8 SS) ∧
            (w4.alloc (.cells #[.slice (some ⟨gF, 0, none⟩) k k, .slice (some ⟨gS, 0, none⟩) k k] 47)).cell? ⟨w4.heap.size, 0, none⟩ = some (.slice (some ⟨gF, 0, none⟩) k k) ∧ (w4.alloc (.cells #[.slice (some ⟨gF, 0, none⟩) k k, .slice (some ⟨gS, 0, none⟩) k k] 47)).cell? ⟨w4.heap.size, 1, none⟩ = some (.slice (some ⟨gS, 0, none⟩) k k)) := hide
          ⟨(((unhide HMF).mono (Nat.zero_le _)).keep ((Ext.refl _).alloc _)).pbuf, (((unhide HMS).mono (Nat.zero_le _)).keep ((Ext.refl _).alloc _)).pbuf, by simp, by simp⟩
        have E4 := And.intro (E0.trans hext) trivial
        have hsz4 := Ext.size hext
        clear HMF HMS HO hFF hSS hext
        go_wp2
        obtain ⟨gl, hgl⟩ : ∃ gl, gl = w4.heap.size := ⟨_, rfl⟩
        rw [← hgl] at HB4 ⊢
        have hglO : gO < gl := by omega
        clear hgl hFl hSl
        go_loopw [133] (fun i wz => ∃ t : Nat, t ≤ 2 ∧ i = .int .i64 t ∧ Hid (Made wz w.heap.size 9 1 (.slice (some ⟨gO, 0, none⟩) n cO) n (strs (mendT L lost (pstrN FF) (pstrN SS) t))) ∧
          Hid (PBuf wz 0 gF (nats .u8 FF) ∧ PBuf wz 0 gS (nats .u8 SS) ∧ wz.cell? ⟨gl, 0, none⟩ = some (.slice (some ⟨gF, 0, none⟩) k k) ∧ wz.cell? ⟨gl, 1, none⟩ = some (.slice (some ⟨gS, 0, none⟩) k k)) ∧ (Ext w wz ∧ True)) (fun i _ => 2 - (intOf i).toNat)
        case atStart => exact ⟨0, by omega, rfl, HO4, HB4, (by repeat (first | exact E4.1 | refine Ext.alloc ?_ _ | refine Ext.drew ?_ | refine Ext.drewN ?_ _ | (refine Ext.trans ?_ (plus_ext _ _)) | (refine Ext.setCell ?_ (by have := Ext.size E4.1; simp; omega) _))), trivial⟩
        case round =>
          clear HO4 HB4 E4
          obtain ⟨t, ht, rfl, HMO, HB, hE⟩ := hrel
          by_cases ht2 : t < 2
          · obtain ⟨B1, B2, c0, c1⟩ := unhide HB
            have ht01 : t = 0 ∨ t = 1 := by omega
            have hpm : ∀ j, j < nl → lost.getD j 0 < n := fun j hj => unhide HL2 j (by have := unhide HLL; omega)
            have HPM := hide hpm
            have HNF : gF ≠ gO := by omega
            have HNS : gS ≠ gO := by omega
            clear hpm
            rcases ht01 with rfl | rfl
            · by_cases hnT : 0 < nl
              · obtain ⟨bl, ol, rfl, hbl, hcl⟩ := ((unhide HRL).keep hE.1).int (k := 0) hnT
                have hlT : 0 < lost.length := by have := unhide HLL; omega
                rw [li_get _ hlT] at hcl
                replace hcl : wr.cell? ⟨bl, ol, none⟩ = _ := hcl
                have hpn := unhide HPM 0 hnT
                have hmt : mendT L lost (pstrN FF) (pstrN SS) 1 = (mendT L lost (pstrN FF) (pstrN SS) 0).set (lost.getD 0 0) (pstrN FF) := by
                  show (if 0 < lost.length then _ else _) = _
                  rw [if_pos hlT]; rfl
                have HMT := hide hmt
                have hcv := (B1.keep ((Ext.refl wr).drew)).str (P := Try.prog) (src := 47) (dst := 9) (e := 5) Try.underlying47 Try.underlying5 Try.underlying9 k
                rw [unhide HFL] at hcv
                have hoc := (unhide HMO).cell (k := lost.getD 0 0) hpn
                have hof := (unhide HMO).frozen (lost.getD 0 0)
                have HM1 := hide (show Made (wr.setCell ⟨gO, lost.getD 0 0, none⟩ (.string (pstrN FF))) w.heap.size 9 1 (.slice (some ⟨gO, 0, none⟩) n cO) n (strs (mendT L lost (pstrN FF) (pstrN SS) 1)) from by
                  have h1 := (unhide HMO).set (j := lost.getD 0 0) (by omega) (.string (pstrN FF))
                  rw [unhide HMT]
                  unfold strs at h1 ⊢
                  rw [List.map_set]
                  exact h1)
                have HB1 := hide (show PBuf (wr.setCell ⟨gO, lost.getD 0 0, none⟩ (.string (pstrN FF))) 0 gF (nats .u8 FF) ∧ PBuf (wr.setCell ⟨gO, lost.getD 0 0, none⟩ (.string (pstrN FF))) 0 gS (nats .u8 SS) ∧ (wr.setCell ⟨gO, lost.getD 0 0, none⟩ (.string (pstrN FF))).cell? ⟨gl, 0, none⟩ = some (.slice (some ⟨gF, 0, none⟩) k k) ∧ (wr.setCell ⟨gO, lost.getD 0 0, none⟩ (.string (pstrN FF))).cell? ⟨gl, 1, none⟩ = some (.slice (some ⟨gS, 0, none⟩) k k) from
                  ⟨B1.other (p := ⟨gO, lost.getD 0 0, none⟩) (fun e => HNF e.symm) _, B2.other (p := ⟨gO, lost.getD 0 0, none⟩) (fun e => HNS e.symm) _,
                    (World.cell?_setCell_other _ _ _ _ (by simp only [ne_eq, Addr.mk.injEq, not_and]; omega)).trans c0, (World.cell?_setCell_other _ _ _ _ (by simp only [ne_eq, Addr.mk.injEq, not_and]; omega)).trans c1⟩)
                have EX := And.intro (hE.1.setCell (p := ⟨gO, lost.getD 0 0, none⟩) hgO (.string (pstrN FF))) trivial
                generalize (strs (mendT L lost (pstrN FF) (pstrN SS) 0)).getD (lost.getD 0 0) undef = old at *
                generalize lost.getD 0 0 = p at *
                generalize hsX : pstrN FF = sx at hcv HM1 HB1 EX
                have hpI : (p : Int) < (n : Int) := by omega
                have hp0 : (0 : Int) ≤ (p : Int) := by omega
                have hTI : ((0 : Nat) : Int) < (nl : Int) := by omega
                clear HMO HB hmt HMT hsX B1 B2
                go_wp2
                go_region_law (fail)
                all_goals
                  go_wp2
                  go_roundw
                  case rel => exact ⟨1, by omega, rfl, hide ((unhide HM1).keep ((Ext.refl _).drew)), hide ⟨(unhide HB1).1.keep ((Ext.refl _).drew), (unhide HB1).2.1.keep ((Ext.refl _).drew), (unhide HB1).2.2.1, (unhide HB1).2.2.2⟩, EX.1.drew, trivial⟩
                  case measure => simp [intOf]
              · have hlT : ¬ 0 < lost.length := by have := unhide HLL; omega
                have HM1 : Hid (Made wr w.heap.size 9 1 (.slice (some ⟨gO, 0, none⟩) n cO) n (strs (mendT L lost (pstrN FF) (pstrN SS) 1))) := hide (by
                  show Made wr w.heap.size 9 1 (.slice (some ⟨gO, 0, none⟩) n cO) n (strs (if 0 < lost.length then _ else _))
                  rw [if_neg hlT]; exact unhide HMO)
                have hTI : ¬ ((0 : Nat) : Int) < (nl : Int) := by omega
                clear HMO B1 B2
                go_wp2
                go_roundw
                case rel => exact ⟨1, by omega, rfl, HM1, HB, (by repeat (first | exact hE.1 | refine Ext.alloc ?_ _ | refine Ext.drew ?_ | refine Ext.drewN ?_ _ | (refine Ext.trans ?_ (plus_ext _ _)) | (refine Ext.setCell ?_ (by have := Ext.size hE.1; simp; omega) _))), trivial⟩
                case measure => simp [intOf]

            · by_cases hnT : 1 < nl
              · obtain ⟨bl, ol, rfl, hbl, hcl⟩ := ((unhide HRL).keep hE.1).int (k := 1) hnT
                have hlT : 1 < lost.length := by have := unhide HLL; omega
                rw [li_get _ hlT] at hcl
                replace hcl : wr.cell? ⟨bl, (ol+1), none⟩ = _ := hcl
                have hpn := unhide HPM 1 hnT
                have hmt : mendT L lost (pstrN FF) (pstrN SS) 2 = (mendT L lost (pstrN FF) (pstrN SS) 1).set (lost.getD 1 0) (pstrN SS) := by
                  show (if 1 < lost.length then _ else _) = _
                  rw [if_pos hlT]; rfl
                have HMT := hide hmt
                have hcv := (B2.keep ((Ext.refl wr).drew)).str (P := Try.prog) (src := 47) (dst := 9) (e := 5) Try.underlying47 Try.underlying5 Try.underlying9 k
                rw [unhide HSL] at hcv
                have hoc := (unhide HMO).cell (k := lost.getD 1 0) hpn
                have hof := (unhide HMO).frozen (lost.getD 1 0)
                have HM1 := hide (show Made (wr.setCell ⟨gO, lost.getD 1 0, none⟩ (.string (pstrN SS))) w.heap.size 9 1 (.slice (some ⟨gO, 0, none⟩) n cO) n (strs (mendT L lost (pstrN FF) (pstrN SS) 2)) from by
                  have h1 := (unhide HMO).set (j := lost.getD 1 0) (by omega) (.string (pstrN SS))
                  rw [unhide HMT]
                  unfold strs at h1 ⊢
                  rw [List.map_set]
                  exact h1)
                have HB1 := hide (show PBuf (wr.setCell ⟨gO, lost.getD 1 0, none⟩ (.string (pstrN SS))) 0 gF (nats .u8 FF) ∧ PBuf (wr.setCell ⟨gO, lost.getD 1 0, none⟩ (.string (pstrN SS))) 0 gS (nats .u8 SS) ∧ (wr.setCell ⟨gO, lost.getD 1 0, none⟩ (.string (pstrN SS))).cell? ⟨gl, 0, none⟩ = some (.slice (some ⟨gF, 0, none⟩) k k) ∧ (wr.setCell ⟨gO, lost.getD 1 0, none⟩ (.string (pstrN SS))).cell? ⟨gl, 1, none⟩ = some (.slice (some ⟨gS, 0, none⟩) k k) from
                  ⟨B1.other (p := ⟨gO, lost.getD 1 0, none⟩) (fun e => HNF e.symm) _, B2.other (p := ⟨gO, lost.getD 1 0, none⟩) (fun e => HNS e.symm) _,
                    (World.cell?_setCell_other _ _ _ _ (by simp only [ne_eq, Addr.mk.injEq, not_and]; omega)).trans c0, (World.cell?_setCell_other _ _ _ _ (by simp only [ne_eq, Addr.mk.injEq, not_and]; omega)).trans c1⟩)
                have EX := And.intro (hE.1.setCell (p := ⟨gO, lost.getD 1 0, none⟩) hgO (.string (pstrN SS))) trivial
                generalize (strs (mendT L lost (pstrN FF) (pstrN SS) 1)).getD (lost.getD 1 0) undef = old at *
                generalize lost.getD 1 0 = p at *
                generalize hsX : pstrN SS = sx at hcv HM1 HB1 EX
                have hpI : (p : Int) < (n : Int) := by omega
                have hp0 : (0 : Int) ≤ (p : Int) := by omega
                have hTI : ((1 : Nat) : Int) < (nl : Int) := by omega
                clear HMO HB hmt HMT hsX B1 B2
                go_wp2
                go_region_law (fail)
                all_goals
                  go_wp2
                  go_roundw
                  case rel => exact ⟨2, by omega, rfl, hide ((unhide HM1).keep ((Ext.refl _).drew)), hide ⟨(unhide HB1).1.keep ((Ext.refl _).drew), (unhide HB1).2.1.keep ((Ext.refl _).drew), (unhide HB1).2.2.1, (unhide HB1).2.2.2⟩, EX.1.drew, trivial⟩
                  case measure => simp [intOf]
              · have hlT : ¬ 1 < lost.length := by have := unhide HLL; omega
                have HM1 : Hid (Made wr w.heap.size 9 1 (.slice (some ⟨gO, 0, none⟩) n cO) n (strs (mendT L lost (pstrN FF) (pstrN SS) 2))) := hide (by
                  show Made wr w.heap.size 9 1 (.slice (some ⟨gO, 0, none⟩) n cO) n (strs (if 1 < lost.length then _ else _))
                  rw [if_neg hlT]; exact unhide HMO)
                have hTI : ¬ ((1 : Nat) : Int) < (nl : Int) := by omega
                clear HMO B1 B2
                go_wp2
                go_roundw
                case rel => exact ⟨2, by omega, rfl, HM1, HB, (by repeat (first | exact hE.1 | refine Ext.alloc ?_ _ | refine Ext.drew ?_ | refine Ext.drewN ?_ _ | (refine Ext.trans ?_ (plus_ext _ _)) | (refine Ext.setCell ?_ (by have := Ext.size hE.1; simp; omega) _))), trivial⟩
                case measure => simp [intOf]

          · obtain rfl : t = 2 := by omega
            have HRF := hide (unhide HMO).clip
            have CCl := hide (clip_str (some ⟨gO, 0, none⟩) n cO wr hcO.1 hcO.2 (fun h => by cases h))
            clear HMO HB
            go_wp2_with fail
            refine (unhide CCl).mono ?_
            rintro e wx ⟨rfl, rfl⟩
            go_wp2
            go_ret2
            exact ⟨unhide HPOST _ _ (.inr ⟨unhide hbad, _, rfl, unhide HRF⟩), (by repeat (first | exact hE.1 | refine Ext.alloc ?_ _ | refine Ext.drew ?_ | refine Ext.drewN ?_ _ | (refine Ext.trans ?_ (plus_ext _ _)) | (refine Ext.setCell ?_ (by have := Ext.size hE.1; simp; omega) _)))⟩

  · obtain ⟨gF, hgF⟩ : ∃ g, g = W0.heap.size + 1 := ⟨_, rfl⟩
    obtain ⟨gS, hgS⟩ : ∃ g, g = W0.heap.size := ⟨_, rfl⟩
    have hg4 : W0.heap.size ≤ gF ∧ W0.heap.size ≤ gS ∧ gF ≠ gS := by omega
    have MF : Made ((W0.alloc Q).alloc Q).drew W0.heap.size 5 1 (.slice (some ⟨gF, 0, none⟩) m m) m (nats .u8 (mix (fun _ => 0) ff m 0)) := by
      rw [mix_zero, ← zerosP m _ (fun _ => rfl), hgF]; exact unhide HM1
    have MS : Made ((W0.alloc Q).alloc Q).drew W0.heap.size 5 1 (.slice (some ⟨gS, 0, none⟩) m m) m (nats .u8 (mix (fun _ => 0) ss m 0)) := by
      rw [mix_zero, ← zerosP m _ (fun _ => rfl), hgS]; exact unhide HM0
    first | rw [← hgF, ← hgS] | rw [← hgS, ← hgF]
    generalize ((W0.alloc Q).alloc Q).drew = W at *
    have HMF := hide MF
    have HMS := hide MS
    clear hgF hgS HM0 HM1 HQ MF MS
    go_wp2
    go_loopw [49] (fun i wr => ∃ k : Nat, k ≤ m ∧ i = .int .i64 k ∧ Hid (Made wr W0.heap.size 5 1 (.slice (some ⟨gF, 0, none⟩) m m) m (nats .u8 (mix (fun _ => 0) ff m k))) ∧
      Hid (Made wr W0.heap.size 5 1 (.slice (some ⟨gS, 0, none⟩) m m) m (nats .u8 (mix (fun _ => 0) ss m k))) ∧ Hid (∀ j, j < k → mbad lost (aa j) (bb j) = false) ∧ Ext W0 wr) (fun i _ => m - (intOf i).toNat)
    case atStart => exact ⟨0, Nat.zero_le _, rfl, HMF, HMS, hide (fun j h => by omega), EW⟩
    case round =>
      clear HMF HMS EW
      obtain ⟨k, hk, rfl, HMF, HMS, hbad, hext⟩ := hrel
      by_cases hlt : k < m
      · have hcx := ((unhide HX).keep hext).nat hlt
        have hcy := ((unhide HY).keep hext).nat hlt
        rw [mapr_get _ hlt] at hcx hcy
        have hbP := byt_get P k (by omega)
        have hbQ := byt_get Qs k (by omega)
        have hkP : (k : Int) < (P.size : Int) := by omega
        have hkQ : (k : Int) < (Qs.size : Int) := by omega
        have hk0 : (0 : Int) ≤ (k : Int) := by omega
        have hkm : (k : Int) < (m : Int) := by omega
        have hx1 := u8_xor_nat (xx k) (byt P k) (unhide HXL k) (byt_lt _ _)
        have hx2 := u8_xor_nat (yy k) (byt Qs k) (unhide HYL k) (byt_lt _ _)
        have ha : aa k < 256 := by rw [unhide haa k]; exact Wm.xor_lt (unhide HXL k) (byt_lt _ _)
        have hb : bb k < 256 := by rw [unhide hbb k]; exact Wm.xor_lt (unhide HYL k) (byt_lt _ _)
        have hsF := mix_set (fun _ => 0) ff hlt
        have hsS := mix_set (fun _ => 0) ss hlt
        have HFF := hide (unhide hff k)
        have HSS := hide (unhide hss k)
        have hnext : Hid (∀ (_ : mbad lost (aa k) (bb k) = false), ∀ j, j < k + 1 → mbad lost (aa j) (bb j) = false) := hide fun h j hj => by
          by_cases hjk : j < k
          · exact unhide hbad j hjk
          · obtain rfl : j = k := by omega
            exact h
        have hstop : Hid (∀ (_ : mbad lost (aa k) (bb k) = true), ∃ j, j < m ∧ mbad lost (aa j) (bb j) = true) := hide fun h => ⟨k, hlt, h⟩
        have hax := unhide haa k
        have hbx := unhide hbb k
        rw [← hax] at hx1
        rw [← hbx] at hx2
        have HSF := hide hsF
        have HSS2 := hide hsS
        clear hax hbx hsF hsS
        generalize aa k = a at *
        generalize bb k = b at *
        generalize xx k = x0 at *
        generalize yy k = y0 at *
        generalize byt P k = p0 at *
        generalize byt Qs k = q0 at *
        go_upto_region 10 with fail
        go_quiet (fail)
        have EK := hext.drewN nq
        have HMF := hide ((unhide HMF).keep ((Ext.refl wr).drewN nq))
        have HMS := hide ((unhide HMS).keep ((Ext.refl wr).drewN nq))
        clear hcx hcy hbP hbQ hx1 hx2 hext
        generalize wr.drewN nq = w5 at *
        have hcF := (unhide HMF).nat (k := k) hlt
        rw [mix_get _ _ hlt] at hcF
        have hfF := (unhide HMF).frozen k
        have hcS := (unhide HMS).nat (k := k) hlt
        rw [mix_get _ _ hlt] at hcS
        have hfS := (unhide HMS).frozen k
        rcases lost with _ | ⟨i0, _ | ⟨i1, _ | _⟩⟩
        · have hnl0 : nl = 0 := by have := unhide HLL; simpa using this.symm
          subst hnl0
          have HMF2 : Hid (Made w5 W0.heap.size 5 1 (.slice (some ⟨gF, 0, none⟩) m m) m (nats .u8 (mix (fun _ => 0) ff m (k + 1)))) := hide (by rw [mix_skip _ _ hlt (unhide HFF)]; exact unhide HMF)
          have HMS2 : Hid (Made w5 W0.heap.size 5 1 (.slice (some ⟨gS, 0, none⟩) m m) m (nats .u8 (mix (fun _ => 0) ss m (k + 1)))) := hide (by rw [mix_skip _ _ hlt (unhide HSS)]; exact unhide HMS)
          clear HMF HMS hcF hfF hcS hfS HFF HSS HSF HSS2
          by_cases ha0 : a = 0
          · by_cases hb0 : b = 0
            · have hn2 := hide (unhide hnext (by simp [mbad, ha0, hb0]))
              subst ha0; subst hb0
              go_wp2
              go_roundw
              case rel => exact ⟨k + 1, by omega, by go_num, HMF2, HMS2, hn2, EK⟩
              case measure => simp [intOf]; omega
            · have hp := unhide hstop (by simp [mbad, hb0])
              have HP := hide hp
              have hbI : ((b : Int) != 0) = true := by rw [bne_iff_ne]; omega
              clear hp hstop hnext
              subst ha0
              go_wp2
              go_ret2
              exact ⟨unhide HPOST _ _ (.inl ⟨unhide HP, rfl⟩), E0.trans EK⟩
          · have hp := unhide hstop (by simp [mbad, ha0])
            have HP := hide hp
            have haI : ((a : Int) != 0) = true := by rw [bne_iff_ne]; omega
            clear hp hstop hnext
            go_wp2
            go_ret2
            exact ⟨unhide HPOST _ _ (.inl ⟨unhide HP, rfl⟩), E0.trans EK⟩
        · have hnl1 : nl = 1 := by have := unhide HLL; simpa using this.symm
          subst hnl1
          have hi0 := unhide HL2 0 (by simp)
          have hi0 : i0 < n := by simpa using hi0
          obtain ⟨bl, ol, rfl, hbl, hcl⟩ := ((unhide HRL).keep (E0.trans EK)).int (k := 0) (by omega)
          rw [Nat.add_zero, li_get [i0] (show 0 < [i0].length by simp)] at hcl
          have hcl : w5.cell? ⟨bl, ol, none⟩ = some (.int .i64 (i0 : Int)) := by simpa using hcl
          have CWt := hide (fun w : World => weight_ok i0 (by omega) w)
          have hg : Wm.fpow 2 i0 < 256 := Wm.fpow_lt (by omega) i0
          have CMu := hide (fun w : World => Mul_any a (Wm.fpow 2 i0) ha hg w)
          have HFF2 : Hid (ff k = a) := hide (unhide HFF)
          have HMB := hide (show mbad [i0] a b = decide (Wm.fmul a (Wm.fpow 2 i0) ≠ b) from rfl)
          have hz := Wm.fmul_lt ha hg
          generalize Wm.fmul a (Wm.fpow 2 i0) = z at *
          generalize Wm.fpow 2 i0 = gg at *
          have HMS2 : Hid (Made w5 W0.heap.size 5 1 (.slice (some ⟨gS, 0, none⟩) m m) m (nats .u8 (mix (fun _ => 0) ss m (k + 1)))) := hide (by rw [mix_skip _ _ hlt (unhide HSS)]; exact unhide HMS)
          clear HMS hcS hfS HSS HSS2 HFF hi0
          go_wp2_with fail
          refine (unhide CWt _).mono ?_
          rintro e w5 ⟨rfl, rfl⟩
          go_wp2_with fail
          refine (unhide CMu _).mono ?_
          rintro e w5 ⟨rfl, rfl⟩
          by_cases hzb : z = b
          · have hn2 := hide (unhide hnext (by rw [unhide HMB]; simp [hzb]))
            subst hzb
            have HMF2 : Hid (Made (w5.setCell ⟨gF, k, none⟩ (.int .u8 (a : Int))) W0.heap.size 5 1 (.slice (some ⟨gF, 0, none⟩) m m) m (nats .u8 (mix (fun _ => 0) ff m (k + 1)))) := hide (by
              have h1 := (unhide HMF).set (j := k) (by omega) (.int .u8 (a : Int))
              have h2 := unhide HSF
              rw [unhide HFF2] at h2
              rw [nats_set, h2] at h1
              exact h1)
            have HMS3 := hide ((unhide HMS2).other (p := ⟨gF, k, none⟩) (by simp [Value.ownBlock]; omega) (.int .u8 (a : Int)))
            have EK2 := EK.setCell (p := ⟨gF, k, none⟩) hg4.1 (.int .u8 (a : Int))
            clear HMF HMS2 HSF HFF2 HMB hstop hnext
            go_wp2
            go_roundw
            case rel => exact ⟨k + 1, by omega, by go_num, HMF2, HMS3, hn2, EK2⟩
            case measure => simp [intOf]; omega
          · have hp := unhide hstop (by rw [unhide HMB]; simp [hzb])
            have HP := hide hp
            have hzI : ((z : Int) != (b : Int)) = true := by rw [bne_iff_ne]; omega
            clear hp hstop hnext
            go_wp2
            go_ret2
            exact ⟨unhide HPOST _ _ (.inl ⟨unhide HP, rfl⟩), E0.trans EK⟩
        · have hnl2 : nl = 2 := by have := unhide HLL; simpa using this.symm
          subst hnl2
          have hi0 : i0 < n := by simpa using unhide HL2 0 (by simp)
          have hi1 : i1 < n := by simpa using unhide HL2 1 (by simp)
          have hij : i1 ≠ i0 := by simpa using unhide HL3 0 (by simp)
          obtain ⟨bl, ol, rfl, hbl, hcl0⟩ := ((unhide HRL).keep (E0.trans EK)).int (k := 0) (by omega)
          obtain ⟨bl', ol', e1, -, hcl1⟩ := ((unhide HRL).keep (E0.trans EK)).int (k := 1) (by omega)
          injection e1 with e1
          injection e1 with e11 e12
          subst e11; subst e12
          rw [Nat.add_zero, li_get [i0, i1] (show 0 < [i0, i1].length by simp)] at hcl0
          rw [li_get [i0, i1] (show 1 < [i0, i1].length by simp)] at hcl1
          have hcl0 : w5.cell? ⟨bl, ol, none⟩ = some (.int .i64 (i0 : Int)) := by simpa using hcl0
          have hcl1 : w5.cell? ⟨bl, ol + 1, none⟩ = some (.int .i64 (i1 : Int)) := by simpa using hcl1
          have CW0 := hide (fun w : World => weight_ok i0 (by omega) w)
          have CW1 := hide (fun w : World => weight_ok i1 (by omega) w)
          have hg0 : Wm.fpow 2 i0 < 256 := Wm.fpow_lt (by omega) i0
          have hg1 : Wm.fpow 2 i1 < 256 := Wm.fpow_lt (by omega) i1
          have hne := pow2_ne (i := i0) (j := i1) (by omega) (by omega) (fun e => hij e.symm)
          have hx3 := u8_xor_nat (Wm.fpow 2 i0) (Wm.fpow 2 i1) hg0 hg1
          have hlt3 := Wm.xor_lt hg0 hg1
          have CI := hide (fun w : World => Inv_ok (Wm.fpow 2 i0 ^^^ Wm.fpow 2 i1) hne hlt3 w)
          have hv := Wm.fpow_lt hlt3 254
          have Cm1 := hide (fun w : World => Mul_any a (Wm.fpow 2 i1) ha hg1 w)
          have hz1 := Wm.fmul_lt ha hg1
          have hx4 := u8_xor_nat b (Wm.fmul a (Wm.fpow 2 i1)) hb hz1
          have hlt4 := Wm.xor_lt hb hz1
          have Cm2 := hide (fun w : World => Mul_any (b ^^^ Wm.fmul a (Wm.fpow 2 i1)) (Wm.fpow (Wm.fpow 2 i0 ^^^ Wm.fpow 2 i1) 254) hlt4 hv w)
          have hff2 := Wm.fmul_lt hlt4 hv
          have HFF2 : Hid (ff k = Wm.fmul (b ^^^ Wm.fmul a (Wm.fpow 2 i1)) (Wm.fpow (Wm.fpow 2 i0 ^^^ Wm.fpow 2 i1) 254)) := hide (unhide HFF)
          have HSS3 : Hid (ss k = a ^^^ Wm.fmul (b ^^^ Wm.fmul a (Wm.fpow 2 i1)) (Wm.fpow (Wm.fpow 2 i0 ^^^ Wm.fpow 2 i1) 254)) := hide (unhide HSS)
          have hx5 := u8_xor_nat a (Wm.fmul (b ^^^ Wm.fmul a (Wm.fpow 2 i1)) (Wm.fpow (Wm.fpow 2 i0 ^^^ Wm.fpow 2 i1) 254)) ha hff2
          have hn2 := hide (unhide hnext rfl)
          generalize Wm.fmul (b ^^^ Wm.fmul a (Wm.fpow 2 i1)) (Wm.fpow (Wm.fpow 2 i0 ^^^ Wm.fpow 2 i1) 254) = f at *
          generalize b ^^^ Wm.fmul a (Wm.fpow 2 i1) = z2 at *
          generalize Wm.fmul a (Wm.fpow 2 i1) = z1 at *
          generalize Wm.fpow (Wm.fpow 2 i0 ^^^ Wm.fpow 2 i1) 254 = v at *
          generalize Wm.fpow 2 i0 ^^^ Wm.fpow 2 i1 = g01 at *
          generalize Wm.fpow 2 i0 = g0 at *
          generalize Wm.fpow 2 i1 = g1 at *
          generalize a ^^^ f = sv at *
          have HMF2 : Hid (Made ((w5.setCell ⟨gF, k, none⟩ (.int .u8 (f : Int))).setCell ⟨gS, k, none⟩ (.int .u8 (sv : Int))) W0.heap.size 5 1 (.slice (some ⟨gF, 0, none⟩) m m) m (nats .u8 (mix (fun _ => 0) ff m (k + 1)))) := hide (by
            have h1 := (unhide HMF).set (j := k) (by omega) (.int .u8 (f : Int))
            have h2 := unhide HSF
            rw [unhide HFF2] at h2
            rw [nats_set, h2] at h1
            exact h1.other (p := ⟨gS, k, none⟩) (by simp [Value.ownBlock]; omega) _)
          have HMS2 : Hid (Made ((w5.setCell ⟨gF, k, none⟩ (.int .u8 (f : Int))).setCell ⟨gS, k, none⟩ (.int .u8 (sv : Int))) W0.heap.size 5 1 (.slice (some ⟨gS, 0, none⟩) m m) m (nats .u8 (mix (fun _ => 0) ss m (k + 1)))) := hide (by
            have h1 := ((unhide HMS).other (p := ⟨gF, k, none⟩) (by simp [Value.ownBlock]; omega) (.int .u8 (f : Int))).set (j := k) (by omega) (.int .u8 (sv : Int))
            have h2 := unhide HSS2
            rw [unhide HSS3] at h2
            rw [nats_set, h2] at h1
            exact h1)
          have EK2 := (EK.setCell (p := ⟨gF, k, none⟩) hg4.1 (.int .u8 (f : Int))).setCell (p := ⟨gS, k, none⟩) hg4.2.1 (.int .u8 (sv : Int))
          have nF : ¬ gF = gS := hg4.2.2
          have nS : ¬ gS = gF := fun e => hg4.2.2 e.symm
          clear HMF HMS HSF HSS2 HFF2 HSS3 HFF HSS hstop hnext hij hi0 hi1 hne
          go_wp2
          go_quiet ((first | (go_at_call 37; with_reducible exact Calls.quiet_of_same (unhide CW0 _)) | (go_at_call 37; with_reducible exact Calls.quiet_of_same (unhide CW1 _))))
          have HMF3 := hide (show Made (((w5.drewN nq).setCell ⟨gF, k, none⟩ (.int .u8 (f : Int))).setCell ⟨gS, k, none⟩ (.int .u8 (sv : Int))) W0.heap.size 5 1 (.slice (some ⟨gF, 0, none⟩) m m) m (nats .u8 (mix (fun _ => 0) ff m (k + 1))) from unhide HMF2)
          have HMS3 := hide (show Made (((w5.drewN nq).setCell ⟨gF, k, none⟩ (.int .u8 (f : Int))).setCell ⟨gS, k, none⟩ (.int .u8 (sv : Int))) W0.heap.size 5 1 (.slice (some ⟨gS, 0, none⟩) m m) m (nats .u8 (mix (fun _ => 0) ss m (k + 1))) from unhide HMS2)
          have EK3 : Ext W0 (((w5.drewN nq).setCell ⟨gF, k, none⟩ (.int .u8 (f : Int))).setCell ⟨gS, k, none⟩ (.int .u8 (sv : Int))) := ((EK.drewN nq).setCell (p := ⟨gF, k, none⟩) hg4.1 (.int .u8 (f : Int))).setCell (p := ⟨gS, k, none⟩) hg4.2.1 (.int .u8 (sv : Int))
          clear HMF2 HMS2 EK2
          go_wp2_with fail
          refine (unhide CI _).mono ?_
          rintro e wx ⟨rfl, rfl⟩
          go_wp2_with fail
          refine (unhide Cm1 _).mono ?_
          rintro e wx ⟨rfl, rfl⟩
          go_wp2_with fail
          refine (unhide Cm2 _).mono ?_
          rintro e wx ⟨rfl, rfl⟩
          go_wp2
          go_roundw
          case rel => exact ⟨k + 1, by omega, by go_num, HMF3, HMS3, hn2, EK3⟩
          case measure => simp [intOf]; omega
        · exact absurd (unhide HLL) (by simp; omega)
      · obtain rfl : k = m := by omega
        obtain ⟨w4, hw4⟩ : ∃ w4, w4 = wr := ⟨_, rfl⟩
        subst hw4
        obtain ⟨FF, hFF⟩ : ∃ FF, FF = (List.range k).map ff := ⟨_, rfl⟩
        obtain ⟨SS, hSS⟩ : ∃ SS, SS = (List.range k).map ss := ⟨_, rfl⟩
        rw [mix_all, ← hFF] at HMF
        rw [mix_all, ← hSS] at HMS
        rw [← hFF, ← hSS] at HPOST
        have hFl : FF.length = k := by rw [hFF]; simp
        have hSl : SS.length = k := by rw [hSS]; simp
        have HFL := hide hFl
        have HSL := hide hSl
        have HO4 : Hid (Made (w4.alloc (.cells #[.slice (some ⟨gF, 0, none⟩) k k, .slice (some ⟨gS, 0, none⟩) k k] 47)) w.heap.size 9 1 (.slice (some ⟨gO, 0, none⟩) n cO) n (strs (mendT L lost (pstrN FF) (pstrN SS) 0))) := hide (((unhide HO).keep hext).keep ((Ext.refl _).alloc _))
        have HB4 : Hid (PBuf (w4.alloc (.cells #[.slice (some ⟨gF, 0, none⟩) k k, .slice (some ⟨gS, 0, none⟩) k k] 47)) 0 gF (nats .u8 FF) ∧ PBuf (w4.alloc (.cells #[.slice (some ⟨gF, 0, none⟩) k k, .slice (some ⟨gS, 0, none⟩) k k] 47)) 0 gS (nats .u8 SS) ∧
            (w4.alloc (.cells #[.slice (some ⟨gF, 0, none⟩) k k, .slice (some ⟨gS, 0, none⟩) k k] 47)).cell? ⟨w4.heap.size, 0, none⟩ = some (.slice (some ⟨gF, 0, none⟩) k k) ∧ (w4.alloc (.cells #[.slice (some ⟨gF, 0, none⟩) k k, .slice (some ⟨gS, 0, none⟩) k k] 47)).cell? ⟨w4.heap.size, 1, none⟩ = some (.slice (some ⟨gS, 0, none⟩) k k)) := hide
          ⟨(((unhide HMF).mono (Nat.zero_le _)).keep ((Ext.refl _).alloc _)).pbuf, (((unhide HMS).mono (Nat.zero_le _)).keep ((Ext.refl _).alloc _)).pbuf, by simp, by simp⟩
        have E4 := And.intro (E0.trans hext) trivial
        have hsz4 := Ext.size hext
        clear HMF HMS HO hFF hSS hext
        go_wp2
        obtain ⟨gl, hgl⟩ : ∃ gl, gl = w4.heap.size := ⟨_, rfl⟩
        rw [← hgl] at HB4 ⊢
        have hglO : gO < gl := by omega
        clear hgl hFl hSl
        go_loopw [133] (fun i wz => ∃ t : Nat, t ≤ 2 ∧ i = .int .i64 t ∧ Hid (Made wz w.heap.size 9 1 (.slice (some ⟨gO, 0, none⟩) n cO) n (strs (mendT L lost (pstrN FF) (pstrN SS) t))) ∧
          Hid (PBuf wz 0 gF (nats .u8 FF) ∧ PBuf wz 0 gS (nats .u8 SS) ∧ wz.cell? ⟨gl, 0, none⟩ = some (.slice (some ⟨gF, 0, none⟩) k k) ∧ wz.cell? ⟨gl, 1, none⟩ = some (.slice (some ⟨gS, 0, none⟩) k k)) ∧ (Ext w wz ∧ True)) (fun i _ => 2 - (intOf i).toNat)
        case atStart => exact ⟨0, by omega, rfl, HO4, HB4, (by repeat (first | exact E4.1 | refine Ext.alloc ?_ _ | refine Ext.drew ?_ | refine Ext.drewN ?_ _ | (refine Ext.trans ?_ (plus_ext _ _)) | (refine Ext.setCell ?_ (by have := Ext.size E4.1; simp; omega) _))), trivial⟩
        case round =>
          clear HO4 HB4 E4
          obtain ⟨t, ht, rfl, HMO, HB, hE⟩ := hrel
          by_cases ht2 : t < 2
          · obtain ⟨B1, B2, c0, c1⟩ := unhide HB
            have ht01 : t = 0 ∨ t = 1 := by omega
            have hpm : ∀ j, j < nl → lost.getD j 0 < n := fun j hj => unhide HL2 j (by have := unhide HLL; omega)
            have HPM := hide hpm
            have HNF : gF ≠ gO := by omega
            have HNS : gS ≠ gO := by omega
            clear hpm
            rcases ht01 with rfl | rfl
            · by_cases hnT : 0 < nl
              · obtain ⟨bl, ol, rfl, hbl, hcl⟩ := ((unhide HRL).keep hE.1).int (k := 0) hnT
                have hlT : 0 < lost.length := by have := unhide HLL; omega
                rw [li_get _ hlT] at hcl
                replace hcl : wr.cell? ⟨bl, ol, none⟩ = _ := hcl
                have hpn := unhide HPM 0 hnT
                have hmt : mendT L lost (pstrN FF) (pstrN SS) 1 = (mendT L lost (pstrN FF) (pstrN SS) 0).set (lost.getD 0 0) (pstrN FF) := by
                  show (if 0 < lost.length then _ else _) = _
                  rw [if_pos hlT]; rfl
                have HMT := hide hmt
                have hcv := (B1.keep ((Ext.refl wr).drew)).str (P := Try.prog) (src := 47) (dst := 9) (e := 5) Try.underlying47 Try.underlying5 Try.underlying9 k
                rw [unhide HFL] at hcv
                have hoc := (unhide HMO).cell (k := lost.getD 0 0) hpn
                have hof := (unhide HMO).frozen (lost.getD 0 0)
                have HM1 := hide (show Made (wr.setCell ⟨gO, lost.getD 0 0, none⟩ (.string (pstrN FF))) w.heap.size 9 1 (.slice (some ⟨gO, 0, none⟩) n cO) n (strs (mendT L lost (pstrN FF) (pstrN SS) 1)) from by
                  have h1 := (unhide HMO).set (j := lost.getD 0 0) (by omega) (.string (pstrN FF))
                  rw [unhide HMT]
                  unfold strs at h1 ⊢
                  rw [List.map_set]
                  exact h1)
                have HB1 := hide (show PBuf (wr.setCell ⟨gO, lost.getD 0 0, none⟩ (.string (pstrN FF))) 0 gF (nats .u8 FF) ∧ PBuf (wr.setCell ⟨gO, lost.getD 0 0, none⟩ (.string (pstrN FF))) 0 gS (nats .u8 SS) ∧ (wr.setCell ⟨gO, lost.getD 0 0, none⟩ (.string (pstrN FF))).cell? ⟨gl, 0, none⟩ = some (.slice (some ⟨gF, 0, none⟩) k k) ∧ (wr.setCell ⟨gO, lost.getD 0 0, none⟩ (.string (pstrN FF))).cell? ⟨gl, 1, none⟩ = some (.slice (some ⟨gS, 0, none⟩) k k) from
                  ⟨B1.other (p := ⟨gO, lost.getD 0 0, none⟩) (fun e => HNF e.symm) _, B2.other (p := ⟨gO, lost.getD 0 0, none⟩) (fun e => HNS e.symm) _,
                    (World.cell?_setCell_other _ _ _ _ (by simp only [ne_eq, Addr.mk.injEq, not_and]; omega)).trans c0, (World.cell?_setCell_other _ _ _ _ (by simp only [ne_eq, Addr.mk.injEq, not_and]; omega)).trans c1⟩)
                have EX := And.intro (hE.1.setCell (p := ⟨gO, lost.getD 0 0, none⟩) hgO (.string (pstrN FF))) trivial
                generalize (strs (mendT L lost (pstrN FF) (pstrN SS) 0)).getD (lost.getD 0 0) undef = old at *
                generalize lost.getD 0 0 = p at *
                generalize hsX : pstrN FF = sx at hcv HM1 HB1 EX
                have hpI : (p : Int) < (n : Int) := by omega
                have hp0 : (0 : Int) ≤ (p : Int) := by omega
                have hTI : ((0 : Nat) : Int) < (nl : Int) := by omega
                clear HMO HB hmt HMT hsX B1 B2
                go_wp2
                go_region_law (fail)
                all_goals
                  go_wp2
                  go_roundw
                  case rel => exact ⟨1, by omega, rfl, hide ((unhide HM1).keep ((Ext.refl _).drew)), hide ⟨(unhide HB1).1.keep ((Ext.refl _).drew), (unhide HB1).2.1.keep ((Ext.refl _).drew), (unhide HB1).2.2.1, (unhide HB1).2.2.2⟩, EX.1.drew, trivial⟩
                  case measure => simp [intOf]
              · have hlT : ¬ 0 < lost.length := by have := unhide HLL; omega
                have HM1 : Hid (Made wr w.heap.size 9 1 (.slice (some ⟨gO, 0, none⟩) n cO) n (strs (mendT L lost (pstrN FF) (pstrN SS) 1))) := hide (by
                  show Made wr w.heap.size 9 1 (.slice (some ⟨gO, 0, none⟩) n cO) n (strs (if 0 < lost.length then _ else _))
                  rw [if_neg hlT]; exact unhide HMO)
                have hTI : ¬ ((0 : Nat) : Int) < (nl : Int) := by omega
                clear HMO B1 B2
                go_wp2
                go_roundw
                case rel => exact ⟨1, by omega, rfl, HM1, HB, (by repeat (first | exact hE.1 | refine Ext.alloc ?_ _ | refine Ext.drew ?_ | refine Ext.drewN ?_ _ | (refine Ext.trans ?_ (plus_ext _ _)) | (refine Ext.setCell ?_ (by have := Ext.size hE.1; simp; omega) _))), trivial⟩
                case measure => simp [intOf]

            · by_cases hnT : 1 < nl
              · obtain ⟨bl, ol, rfl, hbl, hcl⟩ := ((unhide HRL).keep hE.1).int (k := 1) hnT
                have hlT : 1 < lost.length := by have := unhide HLL; omega
                rw [li_get _ hlT] at hcl
                replace hcl : wr.cell? ⟨bl, (ol+1), none⟩ = _ := hcl
                have hpn := unhide HPM 1 hnT
                have hmt : mendT L lost (pstrN FF) (pstrN SS) 2 = (mendT L lost (pstrN FF) (pstrN SS) 1).set (lost.getD 1 0) (pstrN SS) := by
                  show (if 1 < lost.length then _ else _) = _
                  rw [if_pos hlT]; rfl
                have HMT := hide hmt
                have hcv := (B2.keep ((Ext.refl wr).drew)).str (P := Try.prog) (src := 47) (dst := 9) (e := 5) Try.underlying47 Try.underlying5 Try.underlying9 k
                rw [unhide HSL] at hcv
                have hoc := (unhide HMO).cell (k := lost.getD 1 0) hpn
                have hof := (unhide HMO).frozen (lost.getD 1 0)
                have HM1 := hide (show Made (wr.setCell ⟨gO, lost.getD 1 0, none⟩ (.string (pstrN SS))) w.heap.size 9 1 (.slice (some ⟨gO, 0, none⟩) n cO) n (strs (mendT L lost (pstrN FF) (pstrN SS) 2)) from by
                  have h1 := (unhide HMO).set (j := lost.getD 1 0) (by omega) (.string (pstrN SS))
                  rw [unhide HMT]
                  unfold strs at h1 ⊢
                  rw [List.map_set]
                  exact h1)
                have HB1 := hide (show PBuf (wr.setCell ⟨gO, lost.getD 1 0, none⟩ (.string (pstrN SS))) 0 gF (nats .u8 FF) ∧ PBuf (wr.setCell ⟨gO, lost.getD 1 0, none⟩ (.string (pstrN SS))) 0 gS (nats .u8 SS) ∧ (wr.setCell ⟨gO, lost.getD 1 0, none⟩ (.string (pstrN SS))).cell? ⟨gl, 0, none⟩ = some (.slice (some ⟨gF, 0, none⟩) k k) ∧ (wr.setCell ⟨gO, lost.getD 1 0, none⟩ (.string (pstrN SS))).cell? ⟨gl, 1, none⟩ = some (.slice (some ⟨gS, 0, none⟩) k k) from
                  ⟨B1.other (p := ⟨gO, lost.getD 1 0, none⟩) (fun e => HNF e.symm) _, B2.other (p := ⟨gO, lost.getD 1 0, none⟩) (fun e => HNS e.symm) _,
                    (World.cell?_setCell_other _ _ _ _ (by simp only [ne_eq, Addr.mk.injEq, not_and]; omega)).trans c0, (World.cell?_setCell_other _ _ _ _ (by simp only [ne_eq, Addr.mk.injEq, not_and]; omega)).trans c1⟩)
                have EX := And.intro (hE.1.setCell (p := ⟨gO, lost.getD 1 0, none⟩) hgO (.string (pstrN SS))) trivial
                generalize (strs (mendT L lost (pstrN FF) (pstrN SS) 1)).getD (lost.getD 1 0) undef = old at *
                generalize lost.getD 1 0 = p at *
                generalize hsX : pstrN SS = sx at hcv HM1 HB1 EX
                have hpI : (p : Int) < (n : Int) := by omega
                have hp0 : (0 : Int) ≤ (p : Int) := by omega
                have hTI : ((1 : Nat) : Int) < (nl : Int) := by omega
                clear HMO HB hmt HMT hsX B1 B2
                go_wp2
                go_region_law (fail)
                all_goals
                  go_wp2
                  go_roundw
                  case rel => exact ⟨2, by omega, rfl, hide ((unhide HM1).keep ((Ext.refl _).drew)), hide ⟨(unhide HB1).1.keep ((Ext.refl _).drew), (unhide HB1).2.1.keep ((Ext.refl _).drew), (unhide HB1).2.2.1, (unhide HB1).2.2.2⟩, EX.1.drew, trivial⟩
                  case measure => simp [intOf]
              · have hlT : ¬ 1 < lost.length := by have := unhide HLL; omega
                have HM1 : Hid (Made wr w.heap.size 9 1 (.slice (some ⟨gO, 0, none⟩) n cO) n (strs (mendT L lost (pstrN FF) (pstrN SS) 2))) := hide (by
                  show Made wr w.heap.size 9 1 (.slice (some ⟨gO, 0, none⟩) n cO) n (strs (if 1 < lost.length then _ else _))
                  rw [if_neg hlT]; exact unhide HMO)
                have hTI : ¬ ((1 : Nat) : Int) < (nl : Int) := by omega
                clear HMO B1 B2
                go_wp2
                go_roundw
                case rel => exact ⟨2, by omega, rfl, HM1, HB, (by repeat (first | exact hE.1 | refine Ext.alloc ?_ _ | refine Ext.drew ?_ | refine Ext.drewN ?_ _ | (refine Ext.trans ?_ (plus_ext _ _)) | (refine Ext.setCell ?_ (by have := Ext.size hE.1; simp; omega) _))), trivial⟩
                case measure => simp [intOf]

          · obtain rfl : t = 2 := by omega
            have HRF := hide (unhide HMO).clip
            have CCl := hide (clip_str (some ⟨gO, 0, none⟩) n cO wr hcO.1 hcO.2 (fun h => by cases h))
            clear HMO HB
            go_wp2_with fail
            refine (unhide CCl).mono ?_
            rintro e wx ⟨rfl, rfl⟩
            go_wp2
            go_ret2
            exact ⟨unhide HPOST _ _ (.inr ⟨unhide hbad, _, rfl, unhide HRF⟩), (by repeat (first | exact hE.1 | refine Ext.alloc ?_ _ | refine Ext.drew ?_ | refine Ext.drewN ?_ _ | (refine Ext.trans ?_ (plus_ext _ _)) | (refine Ext.setCell ?_ (by have := Ext.size hE.1; simp; omega) _)))⟩

end Go.Proofs.Ytkebldjepdhioaa
