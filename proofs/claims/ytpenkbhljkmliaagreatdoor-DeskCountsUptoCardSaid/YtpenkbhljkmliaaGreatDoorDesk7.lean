import Derived.Test.YtpenkbhljkmliaaGreatDoorDesk4
import Derived.Test.YtpenkbhljkmliaaGreatDoorDeskB
import Derived.Test.YtpenkbhljkmliaaGreatDoorShelfs13
import Derived.Shelf.Strings.SlTrimAscii
import Derived.Test.YtpenkbhljkmliaaGreatDoorTri
/-
  The contract of desk.number.
-/
set_option linter.unusedVariables false
set_option linter.unusedSimpArgs false
namespace Go.Proofs.YtpenkbhljkmliaaGreatDoor
open Go.RowKit Go.BigFrame

def digB_ : ByteArray := ⟨#[48, 49, 50, 51, 52, 53, 54, 55, 56, 57]⟩
theorem zero_set : ∀ w, (zeroValue (Tryz.lays160_ren.t 116)).run Tryz.prog w = .ok (.agg (Array.replicate 256 (.bool false))) w := fun w => by kernel_rfl
theorem trim_digs (s : ByteArray) (hn : s.size ≤ 7) (w : World) :
    Calls Tryz.prog 59 #[.string s, .string digB_] w fun e w' => e = .returned (.string ⟨(Lib.trimS s.data.toList digs).toArray⟩) ∧ Ext w w' :=
  Any.strings_Trim_ascii Tryz.lays160 zero_set (by kernel_rfl) s digB_ w (by omega) (by decide) (ascii_of_all (by decide))

set_option maxRecDepth 100000 in
set_option maxHeartbeats 1000000 in
theorem number_ok (s : ByteArray) (n : Nat) (h : numT s = .ok n) (w : World) :
    Calls Tryz.prog 44 #[.string s] w fun e w' => e = .returned (.int .i64 (n : Int)) ∧ Ext w w' := by
  obtain ⟨h1, h7, hd, ha, -⟩ := numT_ok h
  have CT := hide (fun w => trim_digs s h7 w)
  rw [(trim_dig _).2 hd] at CT
  have CA := hide (fun w => Tryz.strconv_Atoi s n (by omega) ha w)
  have i1 : ¬ (s.size : Int) < 1 := by omega
  have i7 : ¬ (7 : Int) < (s.size : Int) := by omega
  clear h hd ha
  go_enter Tryz.func44, Tryz.ntmps44
  go_wp2_with fail
  refine (unhide CT _).mono ?_
  rintro e w1 ⟨rfl, E1⟩
  go_wp2_with fail
  refine (unhide CA _).mono ?_
  rintro e w2 ⟨rfl, t, hw2⟩
  have E2 := hide (E1.trans (show Ext w1 w2 by rw [hw2]; exact Lib.bytesWorld_below _ _ _))
  clear hw2
  go_wp2
  go_ret
  exact ⟨rfl, unhide E2⟩

set_option maxRecDepth 100000 in
set_option maxHeartbeats 1000000 in
theorem number_bad (s : ByteArray) (er : Int) (h : numT s = .error er) (w : World) :
    Calls Tryz.prog 44 #[.string s] w fun e w' => e = thrown er ∧ Ext w w' := by
  obtain ⟨rfl, hc⟩ := numT_bad h
  clear h
  rcases hc with h | h | ⟨h1, h7, hd⟩
  · have i1 : (s.size : Int) < 1 := by omega
    go_enter Tryz.func44, Tryz.ntmps44
    go_wp2
    exact ⟨rfl, rfl, Ext.refl _⟩
  · have i1 : ¬ (s.size : Int) < 1 := by omega
    have i7 : (7 : Int) < (s.size : Int) := by omega
    go_enter Tryz.func44, Tryz.ntmps44
    go_wp2
    exact ⟨rfl, rfl, Ext.refl _⟩
  · have CT := hide (fun w => trim_digs s h7 w)
    have hne : Lib.trimS s.data.toList digs ≠ [] := fun e => by rw [(trim_dig _).1 e] at hd; cases hd
    generalize Lib.trimS s.data.toList digs = T at *
    have hB : (T == []) = false := by simpa using hne
    have i1 : ¬ (s.size : Int) < 1 := by omega
    have i7 : ¬ (7 : Int) < (s.size : Int) := by omega
    clear hd hne
    go_enter Tryz.func44, Tryz.ntmps44
    go_wp2_with fail
    refine (unhide CT _).mono ?_
    rintro e w1 ⟨rfl, E1⟩
    go_wp2
    exact ⟨rfl, rfl, E1⟩
end Go.Proofs.YtpenkbhljkmliaaGreatDoor

/-
  The contract of desk.form: the words of a line, read by a form.
-/
set_option linter.unusedVariables false
set_option linter.unusedSimpArgs false
namespace Go.Proofs.YtpenkbhljkmliaaGreatDoor
open Go.RowKit Go.BigFrame

theorem intD : EInfo Tryz.prog 61 3 (.int .i64 0) 1 8 := EInfo.mk_ Tryz.underlying61 (by kernel_rfl) rfl (by omega)
/-- A form's letters: w a word, n a number. -/
def fmtB (f : List Bool) : ByteArray := ⟨(f.map fun b => if b then (119 : UInt8) else 110).toArray⟩
theorem fmtB_size (f : List Bool) : (fmtB f).size = f.length := by
  show (List.toArray _).size = _
  simp
theorem fmtB_get (f : List Bool) (k : Nat) (h : k < (fmtB f).size) : ((fmtB f)[k]'h).toNat = if f.getD k false then 119 else 110 := by
  have hk : k < f.length := by rw [← fmtB_size]; exact h
  have e : (fmtB f)[k]'h = if f.getD k false then (119 : UInt8) else 110 := by
    show ((f.map fun b => if b then (119 : UInt8) else 110).toArray)[k]'_ = _
    have e2 : (f.map fun b => if b then (119 : UInt8) else 110)[k]'(by rw [List.length_map]; exact hk) = if f.getD k false then (119 : UInt8) else 110 := by
      rw [List.getElem_map, List.getD_eq_getElem?_getD, List.getElem?_eq_getElem hk]
      rfl
    exact e2
  rw [e]
  split <;> rfl
section
variable {ws : List ByteArray} {f : List Bool} {ns : List Nat} {x : ByteArray} {k : Nat}
theorem drop_cons {α : Type} (l : List α) (z : α) (k : Nat) (h : k < l.length) : l.drop k = l.getD k z :: l.drop (k + 1) := by
  rw [List.drop_eq_getElem_cons h, List.getD_eq_getElem?_getD, List.getElem?_eq_getElem h]; rfl
theorem formGo_word (h1 : k < ws.length) (h2 : k < f.length) (hb : f.getD k false = true) : formGo (ws.drop k) (f.drop k) ns x = formGo (ws.drop (k + 1)) (f.drop (k + 1)) ns (ws.getD k ByteArray.empty) := by
  rw [drop_cons ws ByteArray.empty k h1, drop_cons f false k h2, hb]
  rfl
theorem formGo_num {n : Nat} (h1 : k < ws.length) (h2 : k < f.length) (hb : f.getD k false = false) (hn : numT (ws.getD k ByteArray.empty) = .ok n) : formGo (ws.drop k) (f.drop k) ns x = formGo (ws.drop (k + 1)) (f.drop (k + 1)) (ns ++ [n]) x := by
  rw [drop_cons ws ByteArray.empty k h1, drop_cons f false k h2, hb]
  simp only [formGo, hn]
theorem formGo_bad {e : Int} (h1 : k < ws.length) (h2 : k < f.length) (hb : f.getD k false = false) (hn : numT (ws.getD k ByteArray.empty) = .error e) : formGo (ws.drop k) (f.drop k) ns x = .error e := by
  rw [drop_cons ws ByteArray.empty k h1, drop_cons f false k h2, hb]
  simp only [formGo, hn]
theorem formGo_end (h1 : ws.length = k) (h2 : f.length = k) : formGo (ws.drop k) (f.drop k) ns x = .ok (ns, x) := by
  rw [List.drop_of_length_le (by omega), List.drop_of_length_le (by omega)]
  rfl
end
/-- What a form comes to. -/
def FormPost (r : Except Int (List Nat × ByteArray)) (w : World) (e : Ending) (w' : World) : Prop := match r with
  | .ok r => ∃ v, e = .returned (.tuple #[v, .string r.2]) ∧ w'.ownsRow w.heap.size 3 1 v r.1.length (nats .i64 r.1)
  | .error er => e = thrown er

set_option maxRecDepth 100000 in
set_option maxHeartbeats 1000000 in
theorem form_any (A : Option Addr) (m c : Nat) (ws : List ByteArray) (f : List Bool) (w : World) (R : Row w A m 1 (strs ws)) (hm : m ≤ 9223372036854775807) (hf : f.length ≤ 10) :
    Calls Tryz.prog 28 #[.slice A m c, .string (fmtB f)] w fun e w' => FormPost (formT ws f) w e w' ∧ Ext w w' := by
  have hlen := R.strN
  obtain ⟨F, hF⟩ : ∃ F, F = fmtB f := ⟨_, rfl⟩
  have hFs : F.size = f.length := by rw [hF]; exact fmtB_size f
  have HT := hide (fun k (hk : k < F.size) => show (F[k]'hk).toNat = if f.getD k false then 119 else 110 from by subst hF; exact fmtB_get f k hk)
  rw [← hF]
  clear hF
  by_cases hne : m = f.length
  · have hfT : formT ws f = formGo (ws.drop 0) (f.drop 0) [] ByteArray.empty := by
      unfold formT
      rw [if_neg (by omega), List.drop_zero, List.drop_zero]
    rw [hfT]
    generalize hr : formGo (ws.drop 0) (f.drop 0) [] ByteArray.empty = r
    have HR := hide R
    have HG := hide hr
    have HL := hide (And.intro hlen hne)
    have i0 : ¬ ((m : Int) ≠ (F.size : Int)) := by omega
    have i1 : ((m : Int) != (F.size : Int)) = false := by simpa using i0
    have hm10 : m ≤ 10 := by omega
    have HFS := hide (show F.size = m by omega)
    clear R hr hfT hne hlen i0 hm hFs
    go_enter Tryz.func28, Tryz.ntmps28
    go_wp2
    go_loopw [6, 7, 19] (fun v u i wr => ∃ (k : Nat) (ns : List Nat) (x : ByteArray), k ≤ m ∧ i = .int .i64 k ∧ u = .string x ∧ Hid (formGo (ws.drop k) (f.drop k) ns x = r) ∧ Hid (wr.ownsRow w.heap.size 3 1 v ns.length (nats .i64 ns)) ∧ ns.length ≤ k ∧ Hid (Ext w wr)) (fun _ _ i _ => m - (intOf i).toNat)
    case atStart => exact ⟨0, [], ByteArray.empty, Nat.zero_le _, rfl, rfl, HG, hide (World.ownsRow_nil _ _ _ _), Nat.le_refl _, hide (Ext.refl _)⟩
    case round =>
      clear HG
      obtain ⟨k, ns, x, hk, rfl, rfl, HG, HO, hnl, HX⟩ := hrel
      by_cases hlt : k < m
      · obtain ⟨b, o, rfl, hb, hc⟩ := ((unhide HR).keep (unhide HX)).str hlt
        have htk := unhide HT k (by have := unhide HFS; omega)
        have hktI : (k : Int) < (F.size : Int) := by have := unhide HFS; omega
        have hk0I : (0 : Int) ≤ (k : Int) := by omega
        have hw1 : k < ws.length := by have := (unhide HL).1; omega
        have hf1 : k < f.length := by have := (unhide HL).2; omega
        by_cases hbk : f.getD k false = true
        · rw [hbk] at htk
          have htk3 : (F[k]'(by have := unhide HFS; omega)).toNat = 119 := htk
          have HG2 := hide ((formGo_word (ns := ns) (x := x) hw1 hf1 hbk).symm.trans (unhide HG))
          clear hbk htk HG
          generalize ws.getD k ByteArray.empty = y at *
          go_wp2
          go_roundw
          case rel => exact ⟨k + 1, ns, y, by omega, by go_num, rfl, HG2, HO, by omega, HX⟩
          case measure => simp [intOf]; omega
        · have hbk : f.getD k false = false := by simpa using hbk
          rw [hbk] at htk
          have htk3 : (F[k]'(by have := unhide HFS; omega)).toNat = 110 := htk
          cases hn : numT (ws.getD k ByteArray.empty) with
          | error er =>
            have HG2 := hide ((formGo_bad (ns := ns) (x := x) hw1 hf1 hbk hn).symm.trans (unhide HG))
            have CN := hide (number_bad _ _ hn wr)
            clear hbk htk HG hn
            generalize ws.getD k ByteArray.empty = y at *
            go_wp2_with fail
            refine (unhide CN).mono ?_
            rintro e w1 ⟨rfl, E1⟩
            unfold thrown
            go_wp2
            refine ⟨rfl, ?_, (unhide HX).trans E1⟩
            rw [← unhide HG2]
            rfl
          | ok n =>
            have HG2 := hide ((formGo_num (ns := ns) (x := x) hw1 hf1 hbk hn).symm.trans (unhide HG))
            have CN := hide (number_ok _ _ hn wr)
            clear hbk htk HG hn
            generalize ws.getD k ByteArray.empty = y at *
            go_wp2_with fail
            refine (unhide CN).mono ?_
            rintro e w1 ⟨rfl, E1⟩
            have hext := (unhide HX).trans E1
            have HO1 := hide (row_ext (unhide HO) E1)
            have hbd : (ns.length + 1) * 8 ≤ 140737488355328 ∧ ns.length + 1 ≤ 9223372036854775807 := by omega
            clear HO E1
            go_wp2_with (at_builtin; refine wpList_app rfl _ _ 61 (by rfl) 3 intD hext _ _ _ _ (by rfl) (unhide HO1) 1 1 (by rfl) rfl rfl hbd ?_)
            intro v' w2 hown' hext' _
            have HO2 := hide (show w2.ownsRow w.heap.size 3 1 v' (ns ++ [n]).length (nats .i64 (ns ++ [n])) by
              rw [← nats_append, List.length_append]
              exact hown')
            have HX2 := hide hext'
            clear hown' hext' hext HO1
            go_wp2
            go_roundw
            case rel => exact ⟨k + 1, ns ++ [n], x, by omega, by go_num, rfl, HG2, HO2, by simp; omega, HX2⟩
            case measure => simp [intOf]; omega
      · obtain rfl : k = m := by omega
        have HG2 := hide ((formGo_end (ns := ns) (x := x) (unhide HL).1 (unhide HL).2.symm).symm.trans (unhide HG))
        go_wp2
        go_ret2
        refine ⟨?_, unhide HX⟩
        rw [← unhide HG2]
        exact ⟨_, rfl, unhide HO⟩
  · have hfT : formT ws f = .error 12 := by
      unfold formT
      rw [if_pos (by omega)]
    rw [hfT]
    have i1 : ((m : Int) != (F.size : Int)) = true := by rw [bne_iff_ne]; omega
    clear hfT HT R hlen
    go_enter Tryz.func28, Tryz.ntmps28
    go_wp2
    exact ⟨rfl, rfl, Ext.refl _⟩
end Go.Proofs.YtpenkbhljkmliaaGreatDoor
