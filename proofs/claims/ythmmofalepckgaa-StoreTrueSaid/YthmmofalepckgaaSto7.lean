/-
  The contract of (*Store).split.
-/
import Derived.Test.YthmmofalepckgaaSto5
import Derived.Test.YthmmofalepckgaaPiece7
set_option linter.unusedVariables false
set_option linter.unusedSimpArgs false
namespace Go.Proofs.Ythmmofalepckgaa
open Go.RowKit Go.BigFrame

/-- What split answers. -/
def SpOut (σ : Sto) (s : ByteArray) (w w' : World) (e : Ending) : Prop :=
  (σ.splitE s ≠ 0 ∧ e = .returned (.tuple #[.slice none 0 0, .int .i64 (σ.splitE s)])) ∨
  (σ.splitE s = 0 ∧ ∃ gq, e = .returned (.tuple #[.slice (some ⟨gq, 0, none⟩) σ.N σ.N, .int .i64 0]) ∧ Made w' w.heap.size 9 1 (.slice (some ⟨gq, 0, none⟩) σ.N σ.N) σ.N (strs (splitL s σ.K σ.N)))
set_option maxRecDepth 100000 in
set_option maxHeartbeats 2000000 in
theorem split_ok {b0 p g : Nat} {w : World} {v : Nat → Nat → Value} {σ : Sto} (S : St b0 w p g v σ) (k1 : 1 ≤ σ.K) (kn : σ.K ≤ σ.N) (hN : σ.N ≤ 10) (hw : σ.wr ≤ 1000000) (s : ByteArray) (hss : (s.size : Int) ≤ 9223372036854775807) :
    Calls Try.prog 18 #[.pointer (some ⟨p, 0, none⟩), .string s] w fun e w' => SpOut σ s w w' e ∧ Ext w w' := by
  have HS := hide S
  have c0 := S.cN
  have c1 := S.cK
  have CS := hide (fun (W : World) => Split_any s σ.K σ.N W hss)
  have HE : splErr s σ.K σ.N = if 60 < s.size then 2 else 0 := by unfold splErr; rw [if_neg (by omega)]
  have HER := hide HE
  have HQ := hide (show ∀ W, Ext w W → Calls Try.prog 19 #[.pointer (some ⟨p, 0, none⟩)] W fun e w' => (∃ u, e = .returned u ∧ w'.ownsRow W.heap.size 3 1 u σ.ups.length (nats .i64 σ.ups)) ∧ Ext W w' from fun W E => up_ok (S.keep E) hN)
  have HU := hide σ.ups_le
  have HSE := hide (show σ.splitE s = if 60 < s.size then 2 else if σ.ups.length < σ.W then 9 else if σ.wr = 1000000 then 11 else 0 from rfl)
  have HW := hide hw
  have HN := hide hN
  have HK1 := hide k1
  have HKN := hide kn
  clear S k1 kn hN HE hw
  unfold SpOut
  obtain ⟨r, hr⟩ : ∃ r, r = σ.splitE s := ⟨_, rfl⟩
  rw [← hr] at HSE ⊢
  clear hr
  by_cases h60 : 60 < s.size
  · have CS2 := hide (fun (W : World) => Split_bad s σ.K σ.N W hss (by rw [unhide HER, if_pos h60]; decide))
    have HR := hide (show r = 2 from by rw [unhide HSE, if_pos h60])
    rw [unhide HER, if_pos h60] at CS2
    clear h60 HSE HER CS
    rw [unhide HR]
    go_enter Try.func18, Try.ntmps18
    go_upto_region 1 with fail
    go_region_held3 (fun W => W.cell? ⟨p, 0, none⟩ = some (.int .i64 (σ.N : Int)) ∧ W.cell? ⟨p, 1, none⟩ = some (.int .i64 (σ.K : Int))) (first | exact ⟨Ext.keep (Ext.refl w).drew c0, Ext.keep (Ext.refl w).drew c1⟩ | exact ⟨Ext.keep E1 c0, Ext.keep E1 c1⟩) (first
      | (go_at_call 23; refine (unhide CS2 _).mono ?_; rintro e w1 ⟨rfl, rfl⟩; have E1 : Ext w w.drew := (Ext.refl w).drew))
    go_wp2
    go_ret2
    exact ⟨.inl ⟨by decide, rfl⟩, (Ext.refl w).drew⟩
  · have CS2 := hide (fun (W : World) => Split_ok s σ.K σ.N W (by omega) (unhide HK1) (unhide HKN) (unhide HN))
    rw [if_neg h60] at HSE
    clear h60 HER CS
    go_enter Try.func18, Try.ntmps18
    go_upto_region 1 with fail
    go_region_held3 (fun W => W.cell? ⟨p, 0, none⟩ = some (.int .i64 (σ.N : Int)) ∧ W.cell? ⟨p, 1, none⟩ = some (.int .i64 (σ.K : Int))) (first | exact ⟨Ext.keep (Ext.refl w).drew c0, Ext.keep (Ext.refl w).drew c1⟩ | exact ⟨Ext.keep E1 c0, Ext.keep E1 c1⟩) (first
      | (go_at_call 23; refine (unhide CS2 _).mono ?_; rintro e w1 ⟨⟨gq, rfl, M1⟩, E1'⟩; have E1 : Ext w w1 := Ext.trans (Ext.refl w).drew E1'))
    have S1 := (unhide HS).keep E1
    have c2 := S1.cW
    have HM := hide (show Made w1 w.heap.size 9 1 (.slice (some ⟨gq, 0, none⟩) σ.N σ.N) σ.N (strs (splitL s σ.K σ.N)) from M1)
    have HE1 := hide E1
    clear S1 M1 E1' E1 c0 c1
    go_wp2
    go_region_held3 (fun W => W.cell? ⟨p, 2, none⟩ = some (.int .i64 (σ.W : Int))) (first | exact Ext.keep (Ext.refl w1).drew c2 | exact Ext.keep E2 c2) (first
      | (go_at_call 19; refine (unhide HQ _ (unhide HE1).drew).mono ?_; rintro e w2 ⟨⟨u, rfl, own⟩, E2'⟩; have E2 : Ext w1 w2 := Ext.trans (Ext.refl w1).drew E2'; obtain ⟨A, cc, rfl, -⟩ := row_of_own own))
    have S2 := (unhide HS).keep ((unhide HE1).trans E2)
    have c5 := S2.cwr
    have HM2 := hide ((unhide HM).keep E2)
    have HE2 := hide ((unhide HE1).trans E2)
    clear S2 E2 E2' own HM HE1 c2
    generalize σ.ups.length = U at *
    by_cases hU : U < σ.W
    · have HR := hide (show r = 9 from by rw [unhide HSE, if_pos hU])
      have hUI : (U : Int) < (σ.W : Int) := by omega
      clear HSE
      go_wp2
      go_ret2
      exact ⟨.inl ⟨by rw [unhide HR]; decide, by rw [unhide HR]; rfl⟩, unhide HE2⟩
    · rw [if_neg hU] at HSE
      have hUI : ¬ (U : Int) < (σ.W : Int) := by omega
      by_cases hwm : σ.wr = 1000000
      · have HR := hide (show r = 11 from by rw [unhide HSE, if_pos hwm])
        have hwI : ((σ.wr : Int) == 1000000) = true := by rw [beq_iff_eq]; omega
        clear HSE hwm
        go_wp2
        go_ret2
        exact ⟨.inl ⟨by rw [unhide HR]; decide, by rw [unhide HR]; rfl⟩, unhide HE2⟩
      · have HR := hide (show r = 0 from by rw [unhide HSE, if_neg hwm])
        have hwI : ((σ.wr : Int) == 1000000) = false := by rw [beq_eq_false_iff_ne]; omega
        clear HSE hwm
        go_wp2
        go_ret2
        exact ⟨.inr ⟨unhide HR, gq, rfl, unhide HM2⟩, unhide HE2⟩
end Go.Proofs.Ythmmofalepckgaa
