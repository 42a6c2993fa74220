/-
  breakPatternsOrdered at uint16, with xorshift's Next and nextPowerOfTwo: the range is shuffled.
-/
import Derived.Test.YtkebldjepdhioaaSrt1
import Derived.Test.YtkebldjepdhioaaShelfs21
import Derived.Laws.Bits64
import Derived.Laws.Bits64b
import Derived.Deep.Cut
import Derived.Deep.CutRange
import Derived.Deep.CutBlock
set_option linter.unusedVariables false
set_option linter.unusedSimpArgs false
namespace Go.Proofs.Ytkebldjepdhioaa
open Go.RowKit Go.BigFrame

/-- The generator's cell. -/
structure Rn (w : World) (q r : Nat) : Prop where
  hq : q < w.heap.size
  cell : w.cell? ⟨q, 0, none⟩ = some (.int .u64 (r : Int))
  fro : w.frozen? ⟨q, 0, none⟩ = false
  lt : r < 18446744073709551616
section
variable {w w' : World} {q r g : Nat}
theorem Rn.keep (R : Rn w q r) (E : Ext w w') : Rn w' q r := ⟨Nat.lt_of_lt_of_le R.hq E.size, (E.cell (p := ⟨q, 0, none⟩) R.hq).trans R.cell, (E.frozen (p := ⟨q, 0, none⟩) R.hq).trans R.fro, R.lt⟩
theorem Rn.drewN (R : Rn w q r) (k : Nat) : Rn (w.drewN k) q r := R.keep ((Ext.refl w).drewN k)
theorem Rn.set (R : Rn w q r) (hgq : g ≠ q) (j : Nat) (u : Value) : Rn (w.setCell ⟨g, j, none⟩ u) q r :=
  ⟨by simpa using R.hq, (World.cell?_setCell_other _ _ _ _ (by intro e; injection e with e; exact hgq e)).trans R.cell, by rw [World.frozen?_setCell]; exact R.fro, R.lt⟩
theorem Rn.put (R : Rn w q r) {s : Nat} (hs : s < 18446744073709551616) : Rn (w.setCell ⟨q, 0, none⟩ (.int .u64 (s : Int))) q s :=
  ⟨by simpa using R.hq, World.cell?_setCell_same' _ _ _ (by rw [R.cell]; rfl), by rw [World.frozen?_setCell]; exact R.fro, hs⟩
end
/-- Another block turned. -/
theorem Sl.other {w0 W W' : World} {base g n c q : Nat} {f : Nat → Nat} (S : Sl w0 W base g n c f) (O : Oth q W W') (hq : w0.heap.size ≤ q) (hgq : g ≠ q) : Sl w0 W' base g n c f := by
  have hgl := (S.made.lt g rfl).2
  have hb := O.block g hgl hgq
  refine ⟨?_, ⟨O.os.trans S.oth.os, O.tape.trans S.oth.tape, O.output.trans S.oth.output, Nat.le_trans S.oth.size O.size, fun k hk hn => (O.block k (Nat.lt_of_lt_of_le hk S.oth.size) (by omega)).trans (S.oth.block k hk hn)⟩⟩
  obtain ⟨h1, h2⟩ := S.made
  refine ⟨h1, ?_⟩
  rcases h2 with ⟨h2, -⟩ | ⟨g', c', cur, h3, h4, h5, r⟩
  · cases h2
  · have e : g' = g := by
      injection h3 with h3
      simp only [Option.some.injEq, Addr.mk.injEq, and_true] at h3
      exact h3.symm
    exact .inr ⟨g', c', cur, h3, h4, by rw [e] at h5 ⊢; exact hb.trans h5, r⟩

def NxPost (q : Nat) (w : World) (e : Ending) (w' : World) : Prop := ∃ r' : Nat, e = .returned (.int .u64 (r' : Int)) ∧ Rn w' q r' ∧ Oth q w w'
set_option maxRecDepth 100000 in
set_option maxHeartbeats 2000000 in
theorem Next_u16 (q r : Nat) (w : World) (R : Rn w q r) :
    Calls Try.prog 74 #[.pointer (some ⟨q, 0, none⟩)] w fun e w' => NxPost q w e w' := by
  have hX := R.lt
  have hc := R.cell
  have hf := R.fro
  obtain ⟨A, hA⟩ : ∃ A : Nat, A = r ^^^ (r * 8192 % 18446744073709551616) := ⟨_, rfl⟩
  obtain ⟨B, hB⟩ : ∃ B : Nat, B = A ^^^ (A / 128) := ⟨_, rfl⟩
  obtain ⟨C, hC⟩ : ∃ C : Nat, C = B ^^^ (B * 131072 % 18446744073709551616) := ⟨_, rfl⟩
  have lA : A < 18446744073709551616 := by rw [hA]; exact Nat.xor_lt_two_pow (n := 64) (by omega) (by omega)
  have lB : B < 18446744073709551616 := by rw [hB]; exact Nat.xor_lt_two_pow (n := 64) (by omega) (by omega)
  have lC : C < 18446744073709551616 := by rw [hC]; exact Nat.xor_lt_two_pow (n := 64) (by omega) (by omega)
  have e1 : bits .xor .u64 (r : Int) (IntKind.u64.wrap ((r : Int) * 8192)) = (A : Int) := by
    rw [IntKind.wrap_u64, show ((r : Int) * 8192 % 18446744073709551616) = ((r * 8192 % 18446744073709551616 : Nat) : Int) by omega, bits_xor_u64_nat _ _ hX (by omega), hA]
  have e2 : bits .xor .u64 (A : Int) ((A : Int) / 128) = (B : Int) := by
    rw [show ((A : Int) / 128) = ((A / 128 : Nat) : Int) by omega, bits_xor_u64_nat _ _ lA (by omega), hB]
  have e3 : bits .xor .u64 (B : Int) (IntKind.u64.wrap ((B : Int) * 131072)) = (C : Int) := by
    rw [IntKind.wrap_u64, show ((B : Int) * 131072 % 18446744073709551616) = ((B * 131072 % 18446744073709551616 : Nat) : Int) by omega, bits_xor_u64_nat _ _ lB (by omega), hC]
  have HR := hide R
  clear hA hB hC R
  go_enter Try.func74, Try.ntmps74
  go_upto_region 1 with fail
  go_cut [] from 3 to 32 (fun wx => Hid (Rn wx q A) ∧ Hid (Oth q w wx))
  case first =>
    have H1 := hide (fun m => ((unhide HR).drewN m).put lA)
    have HO1 := hide (fun m => (Oth.of_ext (g := q) ((Ext.refl w).drewN m)).set (j := 0) (.int .u64 (A : Int)))
    go_region_law (fail)
    all_goals
      go_wp2_with fail
      go_meet
      case rel => exact ⟨hide (unhide H1 _), hide (unhide HO1 _)⟩
  case rest =>
    obtain ⟨HR1, HO1⟩ := hcut
    clear hc hf HR
    have hc := (unhide HR1).cell
    have hf := (unhide HR1).fro
    go_upto_region 2 with fail
    go_cut [] from 3 to 32 (fun wx => Hid (Rn wx q B) ∧ Hid (Oth q w wx))
    case first =>
      have H1 := hide (fun m => ((unhide HR1).drewN m).put lB)
      have HO2 := hide (fun m => ((unhide HO1).trans (Oth.of_ext (g := q) ((Ext.refl wc).drewN m))).set (j := 0) (.int .u64 (B : Int)))
      go_region_law (fail)
      all_goals
        go_wp2_with fail
        go_meet
        case rel => exact ⟨hide (unhide H1 _), hide (unhide HO2 _)⟩
    case rest =>
      rename World => w1
      obtain ⟨HR2, HO2⟩ := hcut
      clear hc hf HR1 HO1
      have hc := (unhide HR2).cell
      have hf := (unhide HR2).fro
      go_upto_region 3 with fail
      go_cut [] from 3 to 32 (fun wx => Hid (Rn wx q C) ∧ Hid (Oth q w wx))
      case first =>
        have H1 := hide (fun m => ((unhide HR2).drewN m).put lC)
        have HO3 := hide (fun m => ((unhide HO2).trans (Oth.of_ext (g := q) ((Ext.refl _).drewN m))).set (j := 0) (.int .u64 (C : Int)))
        go_region_law (fail)
        all_goals
          go_wp2_with fail
          go_meet
          case rel => exact ⟨hide (unhide H1 _), hide (unhide HO3 _)⟩
      case rest =>
        obtain ⟨HR3, HO3⟩ := hcut
        clear hc hf
        have hc := (unhide HR3).cell
        have hf := (unhide HR3).fro
        go_wp2
        go_ret
        exact ⟨C, rfl, unhide HR3, unhide HO3⟩

theorem len_small : ∀ L, L < 65 → 1 ≤ L → 2 ^ (Lib.bitLen L) ≤ 2 * L ∧ Lib.bitLen L ≤ 7 := by decide +kernel
theorem wrap_two_pow' (k : Nat) (hk : k ≤ 62) : IntKind.u64.wrap ((2 : Int) ^ k) = ((2 ^ k : Nat) : Int) := by
  have h : (2 : Nat) ^ k ≤ 2 ^ 62 := Nat.pow_le_pow_right (by decide) hk
  rw [IntKind.wrap_u64, show ((2 : Int) ^ k) = ((2 ^ k : Nat) : Int) by push_cast; rfl]
  generalize (2 : Nat) ^ k = p at h
  omega
def NpPost (L : Nat) (w : World) (e : Ending) (w' : World) : Prop := ∃ M : Nat, e = .returned (.int .u64 (M : Int)) ∧ 1 ≤ M ∧ M ≤ 2 * L ∧ w' = w
set_option maxRecDepth 100000 in
theorem nextPow_u16 (L : Nat) (h1 : 1 ≤ L) (h64 : L ≤ 64) (w : World) : Calls Try.prog 73 #[.int .i64 L] w fun e w' => NpPost L w e w' := by
  have hLen : ∀ w, Calls Try.prog 59 #[.int .u64 (L : Int)] w fun e w' => e = .returned (.int .i64 (Lib.bitLen L : Nat)) ∧ w' = w := fun w => by
    have h := Try.bits_Len (L : Int) w (by omega) (by omega)
    rwa [Int.toNat_natCast] at h
  obtain ⟨hp, hk⟩ := len_small L (by omega) h1
  have CL := hide hLen
  clear hLen
  generalize Lib.bitLen L = k at *
  have hv := wrap_two_pow' k (by omega)
  have h2 : 1 ≤ 2 ^ k := Nat.one_le_two_pow
  have HP := hide (And.intro h2 hp)
  clear hp h2
  generalize 2 ^ k = M at *
  go_enter Try.func73, Try.ntmps73
  go_wp2_with fail
  refine (unhide CL _).mono ?_
  rintro e w' ⟨rfl, rfl⟩
  go_wp2
  go_ret
  exact ⟨M, rfl, (unhide HP).1, (unhide HP).2, rfl⟩
end Go.Proofs.Ytkebldjepdhioaa
