/-
  The contracts of Root and Prove for hash trees.
-/
import Derived.Test.YtheklkgilcdhoaaTree3
set_option linter.unusedVariables false
set_option linter.unusedSimpArgs false
namespace Go.Proofs.Ytheklkgilcdhoaa
open Go.RowKit Go.BigFrame

set_option maxRecDepth 100000 in
set_option maxHeartbeats 1000000 in
theorem Root_ok (A : Option Addr) (n c : Nat) (l : List ByteArray) (w : World) (hn1 : 1 ≤ n) (hn : n ≤ 16) (hl : Row w A n 1 (strs l)) (hs : ∀ s ∈ l, (s.size : Int) ≤ 9223372036854775807) :
    Calls Try.prog 7 #[.slice A n c] w fun e w' => e = .returned (.tuple #[.int .u64 (Wm.rootL nd (l.map lf)), .int .i64 0]) ∧ Ext w w' := by
  have CL := hide (leaves_any A n c l w hn1 hn hl hs)
  have hlen := hl.strN
  clear hl hs
  go_enter Try.func7, Try.ntmps7
  go_wp2_with fail
  refine (unhide CL).mono ?_
  rintro e w1 ⟨⟨v, rfl, hown⟩, E1⟩
  go_wp2
  go_loopw [4] (fun v wr => ∃ l' : List Nat, 1 ≤ l'.length ∧ l'.length ≤ 16 ∧ Hid (Wm.rootL nd (l.map lf) = Wm.rootL nd l') ∧ wr.ownsRow w.heap.size 28 1 v l'.length (nats .u64 l') ∧ Ext w wr) (fun v _ => match v with | .slice _ m _ => m | _ => 0)
  case atStart => exact ⟨l.map lf, by simp; omega, by simp; omega, hide rfl, by simpa using hown, E1⟩
  case round =>
    obtain ⟨l', h1, h16, hrt, hown', hext⟩ := hrel
    clear hown
    obtain ⟨A', c', rfl, hrow, hc, hcm, -⟩ := row_of_own hown'
    unfold maxLen at hcm
    by_cases hlt : 1 < l'.length
    · have CU := hide (up_any A' l'.length c' l' wr (by omega) hrow)
      have hst := Wm.rootL_step (nd := nd) hlt
      have HR := hide ((unhide hrt).trans hst)
      have hul := Wm.upL_length nd l'
      have HO := hide hown'
      clear hst hrt hrow hown'
      obtain ⟨m, hm⟩ : ∃ m, m = l'.length := ⟨_, rfl⟩
      rw [← hm] at CU hlt ⊢
      have HM := hide hm
      clear hm
      have hmI : (1 : Int) < (m : Int) := by omega
      have hm16 : m ≤ 16 := by have := unhide HM; omega
      go_wp2_with fail
      refine (unhide CU).mono ?_
      rintro e w2 ⟨⟨v2, rfl, hown2⟩, E2⟩
      have hm' := unhide HM
      have hown3 := row_mono hown2 hext.size
      have hlen2 : (Wm.upL nd l').length = (m + 1) / 2 := by rw [hul, hm']
      go_wp2
      go_roundw
      case rel => exact ⟨Wm.upL nd l', by omega, by omega, HR, by rw [hlen2]; exact hown3, hext.trans E2⟩
      case measure =>
        obtain ⟨A2, c2, rfl, -⟩ := row_of_own hown2
        show (m + 1) / 2 < m
        omega
    · obtain ⟨b, o, rfl, hb, hcell⟩ := hrow.nat (k := 0) (by omega)
      have hrt' := (unhide hrt).trans (Wm.rootL_end (nd := nd) (by omega))
      have HR := hide hrt'
      rw [Nat.add_zero] at hcell
      obtain hm : l'.length = 1 := by omega
      rw [hm]
      clear hrow hrt hrt' hown' hlen
      generalize l'.getD 0 0 = x at *
      go_wp2
      go_ret2
      exact ⟨by rw [unhide HR]; rfl, hext⟩

set_option maxRecDepth 100000 in
theorem Root_bad (A : Option Addr) (n c : Nat) (w : World) (h : n < 1 ∨ 16 < n) :
    Calls Try.prog 7 #[.slice A n c] w fun e w' => e = .returned (.tuple #[.int .u64 0, .int .i64 2]) ∧ w' = w := by
  have CL := hide (leaves_bad A n c w h)
  clear h
  go_enter Try.func7, Try.ntmps7
  go_wp2_with fail
  refine (unhide CL).mono ?_
  rintro e w' ⟨rfl, rfl⟩
  go_wp2
  go_ret2
  exact ⟨rfl, rfl⟩

/-- What trees() tries. -/
def sa : ByteArray := { data := #[97] }
def sb : ByteArray := { data := #[98] }
theorem root_ab : ((lf sa : Nat) : Int) ≠ ((nd (lf sa) (lf sb) : Nat) : Int) := by decide +kernel

end Go.Proofs.Ytheklkgilcdhoaa
