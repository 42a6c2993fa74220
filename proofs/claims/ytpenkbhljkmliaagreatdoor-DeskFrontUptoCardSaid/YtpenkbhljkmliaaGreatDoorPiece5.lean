/-
  The contract of piece.sealed.
-/
import Derived.Test.YtpenkbhljkmliaaGreatDoorPiece4
import Derived.Test.YtpenkbhljkmliaaGreatDoorTri
set_option linter.unusedVariables false
set_option linter.unusedSimpArgs false
namespace Go.Proofs.YtpenkbhljkmliaaGreatDoor
open Go.RowKit Go.BigFrame

theorem strN_append (l m : List Nat) : strN l ++ strN m = strN (l ++ m) := by
  unfold strN
  apply ByteArray.ext
  simp
theorem crcS_strN (l : List Nat) (h : ∀ x ∈ l, x < 256) : (4294967295 ^^^ crcS (sby (strN l)) (strN l).size) = sumS (gd l) l.length := by
  unfold sumS
  rw [strN_size, crcS_same (sby (strN l)) (gd l) l.length fun k hk => sby_strN l h hk]
theorem sealL_eq (len : Nat) (part : List Nat) : sealL len part = (len :: part) ++ le4 (sumS (gd (len :: part)) (len :: part).length) := by
  unfold sealL; rw [List.length_cons]
theorem u8_of (X : Nat) : IntKind.u8.wrap (X : Int) = ((X % 256 : Nat) : Int) := by
  show ((X : Int) % 256) = _
  omega

theorem four_str (X : Nat) (hX : X < 4294967296) (w : World) :
    (convert 106 9 (.slice (some ⟨w.heap.size, 0, none⟩) 4 4)).run Tryz.prog (w.alloc (.cells #[.int .u8 ((X : Int) % 256), .int .u8 ((X : Int) / 256 % 256), .int .u8 ((X : Int) / 65536 % 256), .int .u8 ((X : Int) / 16777216)] 5)) =
      .ok (.string (strN (le4 X))) (w.alloc (.cells #[.int .u8 ((X : Int) % 256), .int .u8 ((X : Int) / 256 % 256), .int .u8 ((X : Int) / 65536 % 256), .int .u8 ((X : Int) / 16777216)] 5)) := by
  have e3 : (X : Int) / 16777216 = ((X / 16777216 % 256 : Nat) : Int) := by omega
  have e2 : (X : Int) / 65536 % 256 = ((X / 65536 % 256 : Nat) : Int) := by omega
  have e1 : (X : Int) / 256 % 256 = ((X / 256 % 256 : Nat) : Int) := by omega
  have e0 : (X : Int) % 256 = ((X % 256 : Nat) : Int) := by omega
  rw [e0, e1, e2, e3]
  have key : ∀ a b c d : Nat, (convert 106 9 (.slice (some ⟨w.heap.size, 0, none⟩) 4 4)).run Tryz.prog (w.alloc (.cells #[.int .u8 (a : Int), .int .u8 (b : Int), .int .u8 (c : Int), .int .u8 (d : Int)] 5)) =
      .ok (.string (strN [a, b, c, d])) (w.alloc (.cells #[.int .u8 (a : Int), .int .u8 (b : Int), .int .u8 (c : Int), .int .u8 (d : Int)] 5)) := fun a b c d => by
    have hc : ∀ (cs : Array Value) (i : Nat), (w.alloc (.cells cs 5)).cell? ⟨w.heap.size, i, none⟩ = cs[i]? := fun cs i => by simp
    have := run_convert_bytes_arg (w.alloc (.cells #[.int .u8 (a : Int), .int .u8 (b : Int), .int .u8 (c : Int), .int .u8 (d : Int)] 5)) 106 5 Tryz.underlying106 Tryz.underlying5 w.heap.size 0 4 4 (([a, b, c, d] : List Nat).map fun (x : Nat) => (x : Int)) rfl (fun i hi => by
      rw [Nat.zero_add, hc]
      match i, hi with
      | 0, _ => rfl
      | 1, _ => rfl
      | 2, _ => rfl
      | 3, _ => rfl) 9 Tryz.underlying9
    rw [strN_nums] at this
    exact this
  exact key _ _ _ _

set_option maxRecDepth 100000 in
set_option maxHeartbeats 1000000 in
theorem sealed_ok (A : Option Addr) (m c len : Nat) (part : List Nat) (w : World) (R : Row w A m 1 (nats .u8 part)) (hl : len ≤ 60) (hm : m ≤ 1000) (hp : ∀ x ∈ part, x < 256) :
    Calls Tryz.prog 110 #[.int .i64 (len : Int), .slice A m c] w fun e w' => e = .returned (.string (strN (sealL len part))) ∧ Ext w w' := by
  have hlen := R.numN
  have hw0 : IntKind.u8.wrap (len : Int) = (len : Int) := IntWalk.u8_in _ (by omega)
  have HR := hide R
  have hall := hide (show ∀ x ∈ len :: part, x < 256 from fun x hx => by
    rcases List.mem_cons.1 hx with rfl | hx
    · omega
    · exact hp x hx)
  have h1 : (nats .u8 part).all (fun u => u.oneCell') = true := by simp [nats, Value.oneCell']
  have H1 := hide h1
  have hbd : (1 + m) * 1 ≤ 140737488355328 ∧ 1 + m ≤ 9223372036854775807 := by omega
  clear R hp h1
  go_enter Tryz.func110, Tryz.ntmps110
  go_wp2_with (at_builtin; refine wpList_app_any rfl _ _ 106 (by rfl) 5 byteR w.heap.size _ 1 [.int .u8 (len : Int)] (by rfl) (World.ownsRow_lit w #[.int .u8 (len : Int)] 1 (Nat.le_refl _) (by unfold maxLen; omega) rfl) A m c _ (by rfl) ((unhide HR).alloc _) (unhide H1) hbd (by simp) ?_)
  intro v' w2 hown hg hat
  obtain ⟨g, cap, rfl, hgb, hgl, -, -, hc⟩ := row_open hown (by omega)
  have E2 : Ext w w2 := ((Ext.refl w).alloc (.cells #[.int .u8 (len : Int)] 5)).grown hg (fun k hk => by
    simp only [Value.ownBlock, Option.some.injEq] at hk
    omega)
  have hlist : ([.int .u8 (len : Int)] ++ nats .u8 part : List Value) = nats .u8 (len :: part) := rfl
  have hco : (convert 106 9 (.slice (some ⟨g, 0, none⟩) (1 + m) cap)).run Tryz.prog w2 = .ok (.string (strN (len :: part))) w2 := by
    have hln : (len :: part).length = 1 + m := by rw [List.length_cons]; omega
    have := run_convert_bytes_arg w2 106 5 Tryz.underlying106 Tryz.underlying5 g 0 (1 + m) cap ((len :: part).map fun (x : Nat) => (x : Int)) (by simp; omega) (fun i hi => by
      rw [Nat.zero_add, hc i (by omega), show (Value.int IntKind.u8 (len : Int) :: nats IntKind.u8 part : List Value) = nats .u8 (len :: part) from rfl, nats_get _ _ _ (by omega), List.getD_eq_getElem?_getD, List.getD_eq_getElem?_getD, List.getElem?_map, List.getElem?_eq_getElem (by omega)]; rfl) 9 Tryz.underlying9
    rw [strN_nums] at this
    exact this
  have HS := hide (Sum_any (strN (len :: part)) (by rw [strN_size, List.length_cons]; omega) w2)
  rw [crcS_strN _ (unhide hall)] at HS
  have hXl := sumS_lt (gd (len :: part)) (gd_lt (unhide hall)) (len :: part).length
  have HE := hide E2
  have HEQ := hide (sealL_eq len part)
  obtain ⟨X, hX⟩ : ∃ X, X = sumS (gd (len :: part)) (len :: part).length := ⟨_, rfl⟩
  rw [← hX] at HS HEQ hXl
  have HXX := hide hX
  have hlen' := hlen
  clear hown hg hat hc hX E2 hgb hgl HR hlen hbd H1
  obtain ⟨s, hs⟩ : ∃ s, s = strN (len :: part) := ⟨_, rfl⟩
  rw [← hs] at hco HS
  have hss : ¬ 9223372036854775807 < s.size + (strN (le4 X)).size := by
    rw [hs, strN_size, strN_size, List.length_cons, hlen']
    simp [le4]; omega
  have HSE := hide hs
  clear hs hlist
  have hu0 := u8_of X
  go_wp2_with fail
  refine (unhide HS).mono ?_
  rintro e w3 ⟨rfl, rfl⟩
  have h4 := four_str X hXl w3
  go_wp2
  go_ret
  refine ⟨?_, (unhide HE).alloc _⟩
  rw [unhide HEQ, ← strN_append, ← unhide HSE]
  rfl
end Go.Proofs.YtpenkbhljkmliaaGreatDoor
