/-
  The contract of Prove for hash trees.
-/
import Derived.Test.YtheklkgilcdhoaaTree4
import Derived.Laws.AppendOwnNone
set_option linter.unusedVariables false
set_option linter.unusedSimpArgs false
namespace Go.Proofs.Ytheklkgilcdhoaa
open Go.RowKit Go.BigFrame

def sliceLen : Value → Nat
  | .slice _ m _ => m
  | _ => 0
def ProvePost (l : List Nat) (k : Nat) (w w' : World) (e : Ending) : Prop := ∃ v, e = .returned (.tuple #[v, .int .i64 0]) ∧ w'.ownsRow w.heap.size 28 1 v (Wm.proveL nd l k).length (nats .u64 (Wm.proveL nd l k))
theorem nats_one' (l : List Nat) : ∀ u ∈ nats .u64 l, u.oneCell' = true := by
  intro u hu
  simp only [nats, List.mem_map] at hu
  obtain ⟨x, -, rfl⟩ := hu
  rfl

set_option maxRecDepth 100000 in
set_option maxHeartbeats 2000000 in
theorem Prove_ok (A : Option Addr) (n c k : Nat) (l : List ByteArray) (w : World) (hn1 : 1 ≤ n) (hn : n ≤ 16) (hk : k < n) (hl : Row w A n 1 (strs l)) (hs : ∀ s ∈ l, (s.size : Int) ≤ 9223372036854775807) :
    Calls Try.prog 8 #[.slice A n c, .int .i64 k] w fun e w' => ProvePost (l.map lf) k w w' e ∧ Ext w w' := by
  have CL := hide (leaves_any A n c l w hn1 hn hl hs)
  have hlen := hl.strN
  have hle : (Wm.proveL nd (l.map lf) k).length ≤ 4 := Wm.proveL_length nd 4 (l.map lf).length _ k rfl (by simp; omega)
  have hkd : decide (n ≤ k) = false := decide_eq_false (by omega)
  have hkd2 : decide ((n : Int) ≤ (k : Int)) = false := decide_eq_false (by omega)
  clear hl hs
  go_enter Try.func8, Try.ntmps8
  go_wp2_with fail
  refine (unhide CL).mono ?_
  rintro e w1 ⟨⟨v, rfl, hown⟩, E1⟩
  go_wp2
  go_loopw [1, 6, 8] (fun kk v out wr => ∃ (k' : Nat) (l' pre : List Nat), kk = .int .i64 k' ∧ k' < l'.length ∧ l'.length ≤ 16 ∧ Hid (Wm.proveL nd (l.map lf) k = pre ++ Wm.proveL nd l' k') ∧ wr.ownsRow w.heap.size 28 1 v l'.length (nats .u64 l') ∧
    wr.ownsRow w.heap.size 28 1 out pre.length (nats .u64 pre) ∧ (pre = [] → out = .slice none 0 0) ∧ (∀ q, v.ownBlock = some q → out.ownBlock ≠ some q) ∧ Ext w wr) (fun _ v _ _ => sliceLen v)
  case atStart => exact ⟨k, l.map lf, [], rfl, by simp; omega, by simp; omega, hide rfl, by simpa using hown, World.ownsRow_nil _ _ _ _, fun _ => rfl, fun q _ h => by simp [Value.ownBlock] at h, E1⟩
  case round =>
    obtain ⟨k', l', pre, rfl, hk', h16, hpr, hown', hout, hnil, hapart, hext⟩ := hrel
    clear hown
    have hown0 := hown'
    obtain ⟨A', c', rfl, hrow, hc, hcm, hab⟩ := row_of_own hown'
    unfold maxLen at hcm
    have hpl : pre.length ≤ 4 := by
      have := congrArg List.length (unhide hpr)
      rw [List.length_append] at this
      omega
    by_cases hlt : 1 < l'.length
    · have hst := Wm.proveL_step (nd := nd) (k := k') hlt
      have hul := Wm.upL_length nd l'
      have HO := hide hown'
      obtain ⟨m, hm⟩ : ∃ m, m = l'.length := ⟨_, rfl⟩
      rw [← hm] at hlt hst hk' ⊢
      have HM := hide hm
      have hx := xor_i64 k' (by omega)
      have hmI : (1 : Int) < (m : Int) := by omega
      have hm16 : m ≤ 16 := by omega
      have CU := hide (fun (wz : World) (E : Ext w wz) (hr : Row wz A' m 1 (nats .u64 l')) => up_any A' m c' l' wz hm16 hr)
      by_cases hx1 : k' ^^^ 1 < m
      · rw [if_pos hx1] at hst
        obtain ⟨b, o, rfl, hb, hcell⟩ := hrow.nat (k := k' ^^^ 1) (by omega)
        have hrow2 := hrow
        obtain ⟨x, hxe⟩ : ∃ x, x = l'.getD (k' ^^^ 1) 0 := ⟨_, rfl⟩
        rw [← hxe] at hcell hst
        obtain ⟨j, hj⟩ : ∃ j, j = k' ^^^ 1 := ⟨_, rfl⟩
        rw [← hj] at hcell hx1 hx
        have HR := hide ((unhide hpr).trans (by rw [hst, ← List.append_assoc]))
        have hj0 : (0 : Int) ≤ (j : Int) := by omega
        have hjm : (j : Int) < (m : Int) := by omega
        have hbd : (pre.length + 1) * 8 ≤ 140737488355328 ∧ pre.length + 1 ≤ 9223372036854775807 := by omega
        have HOUT := hide hout
        have HROW := hide hrow2
        have hbq := fun v' w' (h : OutOf wr _ w' v') (q : Nat) (hq : some b = some q) => (by
          injection hq with hq
          subst hq
          intro h3
          rcases h.2 with h4 | ⟨j2, h4, h5⟩
          · exact hapart b rfl (h4 ▸ h3)
          · rw [h3] at h4; injection h4 with h4; omega : v'.ownBlock ≠ some q)
        have HBQ := hide hbq
        clear hst hrow hrow2 hown' hout hxe hj hpr hm hlen hbq
        go_wp2_with (at_builtin; refine wpList_apx rfl _ _ 31 (by rfl) 28 longI hext _ _ _ _ (by rfl) (unhide HOUT) 1 1 (by rfl) rfl rfl hbd (OutOf.refl _ _) ?_)
        intro v' w2 hown2 hext2 hout2
        have hrow2 := hout2.row (unhide HROW) (fun b' o' e => hapart b' (by rw [e]; rfl))
        rw [← unhide HM] at hrow2
        have C2 := hide (unhide CU w2 hext2 hrow2)
        have hown3 : w2.ownsRow w.heap.size 28 1 v' (pre ++ [x]).length (nats .u64 (pre ++ [x])) := by rw [nats_snoc, List.length_append]; exact hown2
        clear hown2 hrow2 hapart hab hout2
        have H3 := hide hown3
        clear hown3
        go_wp2_with fail
        refine (unhide C2).mono ?_
        rintro e w3 ⟨⟨v3, rfl, hown4⟩, E3⟩
        obtain ⟨A2, c2, rfl, -⟩ := row_of_own hown4
        have hlm := unhide HM
        have hlen2 : (Wm.upL nd l').length = (m + 1) / 2 := by rw [hul, hlm]
        have H4 := hide hown4
        clear hown4 hlm
        go_wp2
        go_roundw
        case rel =>
          refine ⟨k' / 2, Wm.upL nd l', pre ++ [x], num_eq (by omega), by omega, by omega, HR, ?_, row_ext (unhide H3) E3, fun h => by simp at h, fun q hq h => ?_, hext2.trans E3⟩
          · rw [hlen2]; exact row_mono (unhide H4) hext2.size
          · have h1 := ((unhide H4).lt q hq).1
            have h2 := ((unhide H3).lt q h).2
            omega
        case measure =>
          show (m + 1) / 2 < m
          omega
      · rw [if_neg hx1, List.nil_append] at hst
        have HR := hide ((unhide hpr).trans (by rw [hst]))
        have hrow2 := hrow
        rw [← unhide HM] at hrow2
        have C2 := hide (unhide CU wr hext hrow2)
        have H3 := hide hout
        clear hst hrow hrow2 hown' hout hpr hm hlen
        go_wp2_with fail
        refine (unhide C2).mono ?_
        rintro e w3 ⟨⟨v3, rfl, hown4⟩, E3⟩
        obtain ⟨A2, c2, rfl, -⟩ := row_of_own hown4
        have hlm := unhide HM
        have hlen2 : (Wm.upL nd l').length = (m + 1) / 2 := by rw [hul, hlm]
        have H4 := hide hown4
        clear hown4 hlm
        go_wp2
        go_roundw
        case rel =>
          refine ⟨k' / 2, Wm.upL nd l', pre, num_eq (by omega), by omega, by omega, HR, ?_, row_ext (unhide H3) E3, hnil, fun q hq h => ?_, hext.trans E3⟩
          · rw [hlen2]; exact row_mono (unhide H4) hext.size
          · have h1 := ((unhide H4).lt q hq).1
            have h2 := ((unhide H3).lt q h).2
            omega
        case measure =>
          show (m + 1) / 2 < m
          omega
    · have hpe := unhide hpr
      rw [Wm.proveL_end (nd := nd) (l := l') (k := k') (by omega), List.append_nil] at hpe
      have HP := hide hpe
      obtain ⟨ht0, ⟨i0, hi, hz0, hz1, hz2⟩, -, -⟩ := longI
      have hsz := hext.size
      have hm1 : l'.length = 1 := by omega
      rw [hm1]
      clear hown' hown0 hrow hpr hpe hlen hab hapart
      by_cases hl0 : pre = []
      · obtain rfl := hnil hl0
        have hmk0 : ∀ w : World, (Instr.makeSlice 31 (.int .i64 0) (.int .i64 0)).run Try.prog w = .ok (.slice (some ⟨w.heap.size, 0, none⟩) 0 0) (w.alloc (.cells (madeCells (Value.int .u64 0).cells (0 * 1)) 28)) := make_run0 longI 0 (by omega) (by omega)
        have hmade := World.ownsRow_made (base := w.heap.size) (e := 28) (size := 1) wr (madeCells (Value.int .u64 0).cells (0 * 1)) 0 hsz (by unfold maxLen; omega) (made_size _ _)
        have HMM := hide hmade
        clear hmade
        go_wp2_with (at_builtin; go_loud (refine wpList_append_own_none rfl _ _ 31 (by rfl) w.heap.size 28 i0 1 Try.underlying31 hi _ 0 [] (by rfl) (unhide HMM) (by rfl) ?_))
        go_wp2
        go_ret2
        exact ⟨⟨_, rfl, by rw [unhide HP, hl0]; exact unhide HMM⟩, hext.alloc _⟩
      · have hl0' : 0 < pre.length := List.length_pos_iff.2 hl0
        obtain ⟨g, cap, rfl, hg1, hg2, hg3, hg4, hcell⟩ := row_open hout hl0'
        have hmk := make_run0 longI pre.length (by omega) (by omega)
        have hmade := World.ownsRow_made (base := w.heap.size) (e := 28) (size := 1) wr (madeCells #[Value.int .u64 0] pre.length) pre.length hsz (by unfold maxLen; omega) (by rw [made_size]; omega)
        have HMM := hide hmade
        have HC := hide hcell
        clear hmade hcell hout hnil
        unfold maxLen at hg4
        go_wp2_with (at_builtin; refine wpList_append_own _ rfl _ _ 31 (by rfl) w.heap.size 28 i0 _ 1 8 Try.underlying31 hi hz0 hz1 hz2 rfl (by decide) _ 0 [] (by rfl) (unhide HMM) ⟨g, 0, none⟩ pre.length cap (nats .u64 pre) (by rfl) (by rw [nats_length]; omega) ?c1 (nats_one' _) ?c3 ?c4 ?c5 ?_)
        case c1 =>
          intro j u hj
          have hjl : j < pre.length * 1 := by
            have := (List.getElem?_eq_some_iff.1 hj).1
            rw [nats_length] at this
            omega
          have : (⟨g, 0, none⟩ : Addr).add j = ⟨g, j, none⟩ := by
            unfold Addr.add
            split
            · rename_i h0; simp [h0]
            · simp
          rw [this]
          exact (World.cell?_alloc_lt _ _ _ hg2).trans ((unhide HC j hjl).trans hj)
        case c3 => unfold maxLen; omega
        case c4 => omega
        case c5 => simp; omega
        intro v' w' hown' hgrow _
        have hown2 : w'.ownsRow w.heap.size 28 1 v' pre.length (nats .u64 pre) := by simpa using hown'
        have hext2 := (hext.alloc (.cells (madeCells #[Value.int .u64 0] pre.length) 28)).grown hgrow (fun q hq => by simp [Value.ownBlock] at hq; omega)
        clear hown' hgrow hmk
        go_wp2
        go_ret2
        exact ⟨⟨_, rfl, by rw [unhide HP]; exact hown2⟩, hext2⟩
end Go.Proofs.Ytheklkgilcdhoaa
