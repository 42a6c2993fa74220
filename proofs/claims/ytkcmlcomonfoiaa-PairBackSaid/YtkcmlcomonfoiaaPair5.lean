/-
  The contract of pair.Mend, where what it is given is in order.
-/
import Derived.Test.YtkcmlcomonfoiaaPair4
set_option linter.unusedVariables false
set_option linter.unusedSimpArgs false
namespace Go.Proofs.Ytkcmlcomonfoiaa
open Go.RowKit Go.BigFrame

/-- Places, as Go's numbers. -/
def li (l : List Nat) : List Int := l.map fun (x : Nat) => (x : Int)
theorem li_get (l : List Nat) {k : Nat} (h : k < l.length) : (li l).getD k 0 = ((l.getD k 0 : Nat) : Int) := by
  unfold li
  rw [List.getD_eq_getElem?_getD, List.getElem?_map, List.getD_eq_getElem?_getD, List.getElem?_eq_getElem h]; rfl
theorem li_length (l : List Nat) : (li l).length = l.length := by simp [li]
theorem mapr_get (f : Nat → Nat) {m k : Nat} (h : k < m) : ((List.range m).map f).getD k 0 = f k := by
  rw [List.getD_eq_getElem?_getD, List.getElem?_map, List.getElem?_range h]; rfl
/-- The lost ones: within, and not the same twice. -/
def okLost (lost : List Nat) (n : Nat) : Prop := lost.length ≤ 2 ∧ (∀ k, k < lost.length → lost.getD k 0 < n) ∧ ∀ k, k + 1 < lost.length → lost.getD (k + 1) 0 ≠ lost.getD k 0

set_option maxRecDepth 100000 in
set_option maxHeartbeats 1000000 in
theorem checkLost_ok (A : Option Addr) (n c m : Nat) (L : List ByteArray) (P Q : ByteArray) (B : Option Addr) (nl cl : Nat) (lost : List Nat) (w : World) (R : Row w A n 1 (strs L)) (RL : Row w B nl 1 (ints (li lost))) (hok : okB L) (hn : n ≤ 10) (hs : ∀ s ∈ L, (s.size : Int) ≤ 9223372036854775807)
    (hm : (L.getD 0 ByteArray.empty).size = m) (hP : P.size = m) (hQ : Q.size = m) (hl : okLost lost n) :
    Calls Try.prog 41 #[.slice A n c, .string P, .string Q, .slice B nl cl] w fun e w' => e = .returned (.int .i64 0) ∧ w' = w := by
  have CK := hide (pcheck_any A n c L w R (by omega) hs)
  have hlen := R.strN
  have hll : lost.length = nl := by have := RL.num; rw [li_length] at this; exact this
  have h1 : 1 ≤ n := by have := hok.1; omega
  obtain ⟨b, o, rfl, hb, hc0⟩ := R.str (k := 0) (by omega)
  rw [Nat.add_zero] at hc0
  have HOK := hide hok
  obtain ⟨l1, l2, l3⟩ := hl
  have HL2 := hide l2
  have HL3 := hide l3
  have hn2 : ¬ (2 : Int) < (nl : Int) := by omega
  have hnl : nl ≤ 2 := by omega
  have HLL := hide hll
  have HRL := hide RL
  have hPI : ((P.size : Int) != (m : Int)) = false := by rw [hP]; simp
  have hQI : ((Q.size : Int) != (m : Int)) = false := by rw [hQ]; simp
  have hPJ : (P.size : Int) = (m : Int) := by rw [hP]
  have hQJ : (Q.size : Int) = (m : Int) := by rw [hQ]
  generalize L.getD 0 ByteArray.empty = s0 at *
  have hsI : (s0.size : Int) = (m : Int) := by rw [hm]
  clear R RL hs hok l1 l2 l3 hll hP hQ hm hlen
  go_enter Try.func41, Try.ntmps41
  go_wp2_with fail
  refine (unhide CK).mono ?_
  rintro e w' ⟨⟨r, rfl, hr⟩, rfl⟩
  obtain rfl : r = 0 := by
    rcases hr with ⟨-, h⟩ | ⟨h, -⟩
    · exact h
    · exact absurd (unhide HOK) h
  clear hr CK
  go_wp2
  go_loopw [40] (fun i wr => ∃ k : Nat, k ≤ nl ∧ i = .int .i64 k ∧ wr = w') (fun i _ => nl - (intOf i).toNat)
  case atStart => exact ⟨0, Nat.zero_le _, rfl, rfl⟩
  case round =>
    obtain ⟨k, hk, rfl, rfl⟩ := hrel
    by_cases hlt : k < nl
    · obtain ⟨b2, o2, rfl, hb2, hc2⟩ := (unhide HRL).int hlt
      have hkl : k < lost.length := by have := unhide HLL; omega
      rw [li_get _ hkl] at hc2
      have hx := unhide HL2 k hkl
      have hx1 : ¬ ((lost.getD k 0 : Nat) : Int) < 0 := by omega
      have hx2 : ¬ (n : Int) ≤ ((lost.getD k 0 : Nat) : Int) := by omega
      by_cases hk0 : k = 0
      · have hk0I : ¬ (0 : Int) < (k : Int) := by omega
        have hk0N : ¬ 0 < k := by omega
        clear hk0
        generalize lost.getD k 0 = x at *
        clear HL2 HL3
        go_wp2
        go_roundw
        case rel => exact ⟨k + 1, by omega, by go_num, by first | rfl | trivial⟩
        case measure => simp [intOf]; omega
      · obtain ⟨j, rfl⟩ : ∃ j, k = j + 1 := ⟨k - 1, by omega⟩
        obtain ⟨b3, o3, e3, hb3, hc3⟩ := (unhide HRL).int (k := j) (by omega)
        injection e3 with e3
        injection e3 with e31 e32
        subst e31; subst e32
        rw [li_get _ (by omega)] at hc3
        have hne := unhide HL3 j hkl
        have hneI : (((lost.getD (j + 1) 0 : Nat) : Int) == ((lost.getD j 0 : Nat) : Int)) = false := by rw [beq_eq_false_iff_ne]; exact fun h => hne (by exact_mod_cast h)
        have hneJ : ¬ ((lost.getD (j + 1) 0 : Nat) : Int) = ((lost.getD j 0 : Nat) : Int) := fun h => hne (by exact_mod_cast h)
        have hw1 : IntKind.i64.wrap ((((j + 1 : Nat) : Int)) - 1) = (j : Int) := (IntWalk.i64_in _ (by omega)).trans (by omega)
        have hw2 : IntKind.i64.wrap (((j : Int) + 1) - 1) = (j : Int) := (IntWalk.i64_in _ (by omega)).trans (by omega)
        have hp0 : (0 : Int) < (j : Int) + 1 := by omega
        generalize lost.getD (j + 1) 0 = x at *
        generalize lost.getD j 0 = y at *
        clear HL2 HL3 hk0 hne
        go_wp2
        go_roundw
        case rel => exact ⟨j + 1 + 1, by omega, num_eqP (by omega), by first | rfl | trivial⟩
        case measure => simp [intOf]; omega
    · obtain rfl : k = nl := by omega
      clear HL2 HL3 HRL HLL
      go_wp2
      go_ret
      exact ⟨rfl, rfl⟩

/-- What is told of one place. -/
def mbad (lost : List Nat) (a b : Nat) : Bool := match lost with
  | [] => decide (a ≠ 0 ∨ b ≠ 0)
  | [i] => decide (Wm.fmul a (Wm.fpow 2 i) ≠ b)
  | _ => false
def mfst (lost : List Nat) (a b : Nat) : Nat := match lost with
  | [] => 0
  | [_] => a
  | i :: j :: _ => Wm.fmul (b ^^^ Wm.fmul a (Wm.fpow 2 j)) (Wm.fpow (Wm.fpow 2 i ^^^ Wm.fpow 2 j) 254)
def msnd (lost : List Nat) (a b : Nat) : Nat := match lost with
  | _ :: _ :: _ => a ^^^ mfst lost a b
  | _ => 0
/-- The blocks, with what is restored. -/
def mendT (L : List ByteArray) (lost : List Nat) (F S : ByteArray) : Nat → List ByteArray
  | 0 => L
  | t + 1 => if t < lost.length then (mendT L lost F S t).set (lost.getD t 0) (if t = 0 then F else S) else mendT L lost F S t
theorem mendT_length (L : List ByteArray) (lost : List Nat) (F S : ByteArray) : ∀ t, (mendT L lost F S t).length = L.length
  | 0 => rfl
  | t + 1 => by
    simp only [mendT]
    split
    · rw [List.length_set, mendT_length L lost F S t]
    · exact mendT_length L lost F S t

theorem set_self {l : List Nat} {k : Nat} (h : k < l.length) : l.set k (l.getD k 0) = l := by
  rw [List.getD_eq_getElem?_getD, List.getElem?_eq_getElem h]
  exact List.set_getElem_self h
theorem mix_skip (f g : Nat → Nat) {m k : Nat} (h : k < m) (e : g k = f k) : mix f g m (k + 1) = mix f g m k := by
  rw [← mix_set f g h, e, ← mix_get f g h]
  exact set_self (by rw [mix_length]; exact h)
theorem pow2_all : ((List.range 10).all fun i => (List.range 10).all fun j => i == j || Wm.fpow 2 i != Wm.fpow 2 j) = true := by decide +kernel
theorem pow2_ne {i j : Nat} (hi : i < 10) (hj : j < 10) (h : i ≠ j) : Wm.fpow 2 i ^^^ Wm.fpow 2 j ≠ 0 := fun e => by
  have h1 := List.all_eq_true.1 (List.all_eq_true.1 pow2_all i (List.mem_range.2 hi)) j (List.mem_range.2 hj)
  have h2 : Wm.fpow 2 i = Wm.fpow 2 j := by
    have : (Wm.fpow 2 i ^^^ Wm.fpow 2 j) ^^^ Wm.fpow 2 j = 0 ^^^ Wm.fpow 2 j := by rw [e]
    rwa [Nat.xor_assoc, Nat.xor_self, Nat.xor_zero, Nat.zero_xor] at this
  simp [h, h2] at h1


set_option maxRecDepth 100000 in
set_option maxHeartbeats 1000000 in
theorem clone_str (A : Option Addr) (n c : Nat) (xs : List Value) (w : World) (R : Row w A n 1 xs) (h1 : ∀ u ∈ xs, u.oneCell' = true) (hb : n * 16 ≤ 140737488355328) (hnil : A = none → n = 0 ∧ c = 0) :
    Calls Try.prog 21 #[.slice A n c] w fun e w' => (∃ v, e = .returned v ∧ w'.ownsRow w.heap.size 9 1 v n xs) ∧ Ext w w' := by
  have hi0 : (Try.prog.info? 9).map (fun i => (i.zero, i.size, i.bytes)) = some (some (.string ByteArray.empty), 1, 16) := by kernel_rfl
  obtain ⟨i0, hi, hz0, hz1, hz2⟩ := info_parts hi0
  cases A with
  | none =>
    obtain ⟨rfl, rfl⟩ := hnil rfl
    obtain rfl := R.empty
    have heq := fun w : World => Lib.run_eql_slice_nil w 36 9 none 0 0 0 0 Try.underlying36
    go_enter Try.func21, Try.ntmps21
    go_wp2
    go_ret
    exact ⟨⟨_, rfl, World.ownsRow_nil _ _ _ _⟩, Ext.refl _⟩
  | some ad =>
    have heq := fun w : World => Lib.run_eql_slice_nil w 36 9 (some ad) n c 0 0 Try.underlying36
    have hr := R.2
    have hl := R.1
    have hown := World.ownsRow_lit (base := w.heap.size) (e := 9) (size := 1) w #[] 0 (Nat.le_refl _) (by unfold maxLen; omega) rfl
    have HR := hide hr
    have HL := hide hl
    clear R hnil hr hl
    go_enter Try.func21, Try.ntmps21
    go_wp2_with (at_builtin; refine wpList_append_own _ rfl _ _ 36 rfl w.heap.size 9 i0 (.string ByteArray.empty) 1 16 Try.underlying36 hi hz0 hz1 hz2 rfl (by decide) _ _ _ rfl hown ad n c xs rfl (unhide HL) ?c1 h1 (by unfold maxLen; omega) (by omega) (by simp) ?_)
    case c1 =>
      intro j u hj
      have hjn : j < n * 1 := by
        have := (List.getElem?_eq_some_iff.1 hj).1
        have := unhide HL
        omega
      obtain ⟨b, o, e, hb, hc⟩ := unhide HR (by omega)
      injection e with e
      subst e
      have hj' := (hc j hjn).trans hj
      have : (⟨b, o, none⟩ : Addr).add j = ⟨b, o + j, none⟩ := by
        unfold Addr.add
        split
        · rename_i h0; simp [h0]
        · rfl
      rw [this]
      exact (World.cell?_alloc_lt _ _ _ hb).trans hj'
    intro v' w' hown' hgrow _
    have hown2 : w'.ownsRow w.heap.size 9 1 v' n xs := by simpa using hown'
    have E1 : Ext w w' := ((Ext.refl w).alloc _).grown hgrow (fun q hq => by simp [Value.ownBlock] at hq; omega)
    clear hgrow
    go_wp2
    go_ret
    exact ⟨⟨_, rfl, hown2⟩, E1⟩

theorem clip_str (A : Option Addr) (n c : Nat) (w : World) (h1 : n ≤ c) (h2 : (c : Int) ≤ 9223372036854775807) (hA : A = none → n = 0 ∧ c = 0) :
    Calls Try.prog 44 #[.slice A n c] w fun e w' => e = .returned (.slice A n n) ∧ w' = w := by
  have h3 : (n : Int) ≤ (c : Int) := by omega
  cases A with
  | none =>
    obtain ⟨rfl, rfl⟩ := hA rfl
    go_enter Try.func44, Try.ntmps44
    go_wp2
    go_ret
    exact ⟨rfl, rfl⟩
  | some a =>
    clear hA
    go_enter Try.func44, Try.ntmps44
    go_wp2
    go_ret
    exact ⟨rfl, rfl⟩


def MendPost (L : List ByteArray) (P Q : ByteArray) (lost : List Nat) (n m : Nat) (w w' : World) (e : Ending) : Prop :=
  ((∃ k, k < m ∧ mbad lost (pc L (li lost) k n ^^^ byt P k) (qc L (li lost) k n ^^^ byt Q k) = true) ∧ e = .returned (.tuple #[.slice none 0 0, .int .i64 8])) ∨
  ((∀ k, k < m → mbad lost (pc L (li lost) k n ^^^ byt P k) (qc L (li lost) k n ^^^ byt Q k) = false) ∧ ∃ A, e = .returned (.tuple #[.slice A n n, .int .i64 0]) ∧
    Row w' A n 1 (strs (mendT L lost (strN ((List.range m).map fun k => mfst lost (pc L (li lost) k n ^^^ byt P k) (qc L (li lost) k n ^^^ byt Q k))) (strN ((List.range m).map fun k => msnd lost (pc L (li lost) k n ^^^ byt P k) (qc L (li lost) k n ^^^ byt Q k))) 2)))
set_option maxRecDepth 100000 in
set_option maxHeartbeats 8000000 in
theorem Mend_ok (A : Option Addr) (n c m : Nat) (L : List ByteArray) (P Qs : ByteArray) (B : Option Addr) (nl cl : Nat) (lost : List Nat) (w : World) (R : Row w A n 1 (strs L)) (RL : Row w B nl 1 (ints (li lost))) (hok : okB L) (hn : n ≤ 10)
    (hm : (L.getD 0 ByteArray.empty).size = m) (hP : P.size = m) (hQ : Qs.size = m) (hl : okLost lost n) :
    Calls Try.prog 22 #[.slice A n c, .string P, .string Qs, .slice B nl cl] w fun e w' => MendPost L P Qs lost n m w w' e ∧ Ext w w' := by
  have hlen := R.strN
  have hll : lost.length = nl := by have := RL.num; rw [li_length] at this; exact this
  have h1 : 1 ≤ n := by have := hok.1; omega
  have hnl : nl ≤ 2 := by have := hl.1; omega
  have hall : ∀ i, i < n → (L.getD i ByteArray.empty).size = m := fun i hi => by rw [← hm]; exact (hok.2.2 _ (getD_mem L ByteArray.empty (show i < L.length by omega))).2
  have hm64 : m ≤ 64 := by rw [← hm]; exact (hok.2.2 _ (getD_mem L ByteArray.empty (show 0 < L.length by omega))).1
  have CK := hide (checkLost_ok A n c m L P Qs B nl cl lost w R RL hok hn (fun s hs => by have := (hok.2.2 s hs).1; omega) hm hP hQ hl)
  obtain ⟨ad, had⟩ : ∃ ad, A = some ad := by
    obtain ⟨b, o, h, -⟩ := R.2 (by omega)
    exact ⟨_, h⟩
  subst had
  have CC := hide (fun (w' : World) (E : Ext w w') => clone_str (some ad) n c (strs L) w' (R.keep E) (strs_one L) (by omega) (fun h => by cases h))
  have CS := hide (fun (w' : World) (E : Ext w w') => sums_any (some ad) n c m L B nl cl (li lost) w' (R.keep E) (RL.keep E) (by omega) h1 hn hm64 hall)
  have HRL := hide RL
  obtain ⟨l1, l2, l3⟩ := hl
  have HL2 := hide l2
  have HL3 := hide l3
  have HLL := hide hll
  obtain ⟨xx, hxx⟩ : ∃ f : Nat → Nat, f = fun k => pc L (li lost) k n := ⟨_, rfl⟩
  obtain ⟨yy, hyy⟩ : ∃ f : Nat → Nat, f = fun k => qc L (li lost) k n := ⟨_, rfl⟩
  obtain ⟨aa, haa⟩ : ∃ f : Nat → Nat, f = fun k => xx k ^^^ byt P k := ⟨_, rfl⟩
  obtain ⟨bb, hbb⟩ : ∃ f : Nat → Nat, f = fun k => yy k ^^^ byt Qs k := ⟨_, rfl⟩
  obtain ⟨ff, hff⟩ : ∃ f : Nat → Nat, f = fun k => mfst lost (aa k) (bb k) := ⟨_, rfl⟩
  obtain ⟨ss, hss⟩ : ∃ f : Nat → Nat, f = fun k => msnd lost (aa k) (bb k) := ⟨_, rfl⟩
  have HXL := hide (show ∀ k, xx k < 256 from fun k => by rw [hxx]; exact pc_lt _ _ _ _)
  have HYL := hide (show ∀ k, yy k < 256 from fun k => by rw [hyy]; exact qc_lt _ _ _ _)
  have HPOST : Hid (∀ (w' : World) (e : Ending), (((∃ k, k < m ∧ mbad lost (aa k) (bb k) = true) ∧ e = .returned (.tuple #[.slice none 0 0, .int .i64 8])) ∨
    ((∀ k, k < m → mbad lost (aa k) (bb k) = false) ∧ ∃ A, e = .returned (.tuple #[.slice A n n, .int .i64 0]) ∧ Row w' A n 1 (strs (mendT L lost (strN ((List.range m).map ff)) (strN ((List.range m).map ss)) 2)))) → MendPost L P Qs lost n m w w' e) := hide fun w' e h => by
      rw [hff, hss, haa, hbb, hxx, hyy] at h
      exact h
  rw [← hlen] at hxx hyy
  have HXX := hide hxx
  have HYY := hide hyy
  have hff := hide (show ∀ k, ff k = mfst lost (aa k) (bb k) from fun k => by rw [hff])
  have hss := hide (show ∀ k, ss k = msnd lost (aa k) (bb k) from fun k => by rw [hss])
  have haa := hide (show ∀ k, aa k = xx k ^^^ byt P k from fun k => by rw [haa])
  have hbb := hide (show ∀ k, bb k = yy k ^^^ byt Qs k from fun k => by rw [hbb])
  have hmk : ∀ w : World, (Instr.makeSlice 22 (.int .i64 (m : Int)) (.int .i64 (m : Int))).run Try.prog w = .ok (.slice (some ⟨w.heap.size, 0, none⟩) m m) (w.alloc (.cells (madeCells #[.int .u8 0] m) 5)) := fun w => by
    have := make_run byteI m m (Nat.le_refl _) (by omega) (by omega) w
    rw [Nat.mul_one] at this
    exact this
  clear R RL hok hall hm l1 l2 l3 hll hxx hyy
  go_enter Try.func22, Try.ntmps22
  go_wp2_with fail
  refine (unhide CK).mono ?_
  rintro e w ⟨rfl, rfl⟩
  clear CK
  go_wp2_with fail
  refine (unhide CC w (Ext.refl _)).mono ?_
  rintro e w1 ⟨⟨vO, rfl, hown⟩, E1⟩
  have MO := Made.of_own hown
  obtain ⟨gO, cO, rfl, hgO⟩ : ∃ g c, vO = .slice (some ⟨g, 0, none⟩) n c ∧ w.heap.size ≤ g := by
    rcases MO.2 with ⟨-, h⟩ | ⟨g, c, cur, hv, hg, -⟩
    · omega
    · exact ⟨g, c, hv, hg⟩
  have hcO : n ≤ cO ∧ (cO : Int) ≤ 9223372036854775807 := by
    obtain ⟨A', c', hv, -, h1, h2, -⟩ := MO.open_
    injection hv with _ _ hv
    subst hv
    unfold maxLen at h2
    omega
  clear CC hown
  go_wp2_with fail
  refine (unhide CS w1 E1).mono ?_
  rintro e W0 ⟨⟨gx, gy, -, rfl, MX, MY⟩, E2⟩
  rw [← unhide HXX] at MX
  rw [← unhide HYY] at MY
  have HX := hide MX
  have HY := hide MY
  have HO := hide (MO.keep E2)
  have E0 := E1.trans E2
  have hgO2 : gO < W0.heap.size := by
    have := (MO.lt gO rfl).2
    have := E2.size
    omega
  clear CS MX MY MO E1 E2 HXX HYY hlen
  obtain ⟨Q, hQ'⟩ : ∃ Q : Obj, Q = .cells (madeCells #[.int .u8 0] m) 5 := ⟨_, rfl⟩
  have M0 : Made ((W0.alloc Q).alloc Q).drew W0.heap.size 5 1 (.slice (some ⟨W0.heap.size, 0, none⟩) m m) m (List.replicate m (.int .u8 0)) := by
    rw [hQ']
    exact (Made.make (w := W0) (base := W0.heap.size) (e := 5) (.int .u8 0) m (Nat.le_refl _) (by omega)).keep (((Ext.refl _).alloc _).drew)
  have M1 : Made ((W0.alloc Q).alloc Q).drew W0.heap.size 5 1 (.slice (some ⟨W0.heap.size + 1, 0, none⟩) m m) m (List.replicate m (.int .u8 0)) := by
    rw [hQ']
    have := (Made.make (w := W0.alloc (.cells (madeCells #[.int .u8 0] m) 5)) (base := W0.heap.size) (e := 5) (.int .u8 0) m (by simp) (by omega)).keep ((Ext.refl _).drew)
    simpa using this
  have HM0 := hide M0
  have HM1 := hide M1
  have HQ := hide hQ'
  have EW : Ext W0 ((W0.alloc Q).alloc Q).drew := (((Ext.refl W0).alloc _).alloc _).drew
  clear M0 M1 hQ'
  go_upto_region 6 with fail
  go_region_held3 (fun _ => True) (trivial) (fail)
  all_goals rw [← unhide HQ]
  · obtain ⟨gF, hgF⟩ : ∃ g, g = W0.heap.size := ⟨_, rfl⟩
    obtain ⟨gS, hgS⟩ : ∃ g, g = W0.heap.size + 1 := ⟨_, rfl⟩
    have hg4 : W0.heap.size ≤ gF ∧ W0.heap.size ≤ gS ∧ gF ≠ gS := by omega
    have MF : Made ((W0.alloc Q).alloc Q).drew W0.heap.size 5 1 (.slice (some ⟨gF, 0, none⟩) m m) m (nats .u8 (mix (fun _ => 0) ff m 0)) := by
      rw [mix_zero, ← zerosP m _ (fun _ => rfl), hgF]; exact unhide HM0
    have MS : Made ((W0.alloc Q).alloc Q).drew W0.heap.size 5 1 (.slice (some ⟨gS, 0, none⟩) m m) m (nats .u8 (mix (fun _ => 0) ss m 0)) := by
      rw [mix_zero, ← zerosP m _ (fun _ => rfl), hgS]; exact unhide HM1
    first | rw [← hgF, ← hgS] | rw [← hgS, ← hgF]
    generalize ((W0.alloc Q).alloc Q).drew = W at *
    have HMF := hide MF
    have HMS := hide MS
    clear hgF hgS HM0 HM1 HQ MF MS
    go_wp2
    go_loopw [49] (fun i wr => ∃ k : Nat, k ≤ m ∧ i = .int .i64 k ∧ Hid (Made wr W0.heap.size 5 1 (.slice (some ⟨gF, 0, none⟩) m m) m (nats .u8 (mix (fun _ => 0) ff m k))) ∧
      Hid (Made wr W0.heap.size 5 1 (.slice (some ⟨gS, 0, none⟩) m m) m (nats .u8 (mix (fun _ => 0) ss m k))) ∧ Hid (∀ j, j < k → mbad lost (aa j) (bb j) = false) ∧ Ext W0 wr) (fun i _ => m - (intOf i).toNat)
    case atStart => exact ⟨0, Nat.zero_le _, rfl, HMF, HMS, hide (fun j h => by omega), EW⟩
    case round =>
      clear HMF HMS EW
      obtain ⟨k, hk, rfl, HMF, HMS, hbad, hext⟩ := hrel
      by_cases hlt : k < m
      · have hcx := ((unhide HX).keep hext).nat hlt
        have hcy := ((unhide HY).keep hext).nat hlt
        rw [mapr_get _ hlt] at hcx hcy
        have hbP := byt_get P k (by omega)
        have hbQ := byt_get Qs k (by omega)
        have hkP : (k : Int) < (P.size : Int) := by omega
        have hkQ : (k : Int) < (Qs.size : Int) := by omega
        have hk0 : (0 : Int) ≤ (k : Int) := by omega
        have hkm : (k : Int) < (m : Int) := by omega
        have hx1 := u8_xor_nat (xx k) (byt P k) (unhide HXL k) (byt_lt _ _)
        have hx2 := u8_xor_nat (yy k) (byt Qs k) (unhide HYL k) (byt_lt _ _)
        have ha : aa k < 256 := by rw [unhide haa k]; exact Wm.xor_lt (unhide HXL k) (byt_lt _ _)
        have hb : bb k < 256 := by rw [unhide hbb k]; exact Wm.xor_lt (unhide HYL k) (byt_lt _ _)
        have hsF := mix_set (fun _ => 0) ff hlt
        have hsS := mix_set (fun _ => 0) ss hlt
        have HFF := hide (unhide hff k)
        have HSS := hide (unhide hss k)
        have hnext : Hid (∀ (_ : mbad lost (aa k) (bb k) = false), ∀ j, j < k + 1 → mbad lost (aa j) (bb j) = false) := hide fun h j hj => by
          by_cases hjk : j < k
          · exact unhide hbad j hjk
          · obtain rfl : j = k := by omega
            exact h
        have hstop : Hid (∀ (_ : mbad lost (aa k) (bb k) = true), ∃ j, j < m ∧ mbad lost (aa j) (bb j) = true) := hide fun h => ⟨k, hlt, h⟩
        have hax := unhide haa k
        have hbx := unhide hbb k
        rw [← hax] at hx1
        rw [← hbx] at hx2
        have HSF := hide hsF
        have HSS2 := hide hsS
        clear hax hbx hsF hsS
        generalize aa k = a at *
        generalize bb k = b at *
        generalize xx k = x0 at *
        generalize yy k = y0 at *
        generalize byt P k = p0 at *
        generalize byt Qs k = q0 at *
        go_upto_region 10 with fail
        go_quiet (fail)
        have EK := hext.drewN nq
        have HMF := hide ((unhide HMF).keep ((Ext.refl wr).drewN nq))
        have HMS := hide ((unhide HMS).keep ((Ext.refl wr).drewN nq))
        clear hcx hcy hbP hbQ hx1 hx2 hext
        generalize wr.drewN nq = w5 at *
        have hcF := (unhide HMF).nat (k := k) hlt
        rw [mix_get _ _ hlt] at hcF
        have hfF := (unhide HMF).frozen k
        have hcS := (unhide HMS).nat (k := k) hlt
        rw [mix_get _ _ hlt] at hcS
        have hfS := (unhide HMS).frozen k
        rcases lost with _ | ⟨i0, _ | ⟨i1, _ | _⟩⟩
        · have hnl0 : nl = 0 := by have := unhide HLL; simpa using this.symm
          subst hnl0
          have HMF2 : Hid (Made w5 W0.heap.size 5 1 (.slice (some ⟨gF, 0, none⟩) m m) m (nats .u8 (mix (fun _ => 0) ff m (k + 1)))) := hide (by rw [mix_skip _ _ hlt (unhide HFF)]; exact unhide HMF)
          have HMS2 : Hid (Made w5 W0.heap.size 5 1 (.slice (some ⟨gS, 0, none⟩) m m) m (nats .u8 (mix (fun _ => 0) ss m (k + 1)))) := hide (by rw [mix_skip _ _ hlt (unhide HSS)]; exact unhide HMS)
          clear HMF HMS hcF hfF hcS hfS HFF HSS HSF HSS2
          by_cases ha0 : a = 0
          · by_cases hb0 : b = 0
            · have hn2 := hide (unhide hnext (by simp [mbad, ha0, hb0]))
              subst ha0; subst hb0
              go_wp2
              go_roundw
              case rel => exact ⟨k + 1, by omega, by go_num, HMF2, HMS2, hn2, EK⟩
              case measure => simp [intOf]; omega
            · have hp := unhide hstop (by simp [mbad, hb0])
              have HP := hide hp
              have hbI : ((b : Int) != 0) = true := by rw [bne_iff_ne]; omega
              clear hp hstop hnext
              subst ha0
              go_wp2
              go_ret2
              exact ⟨unhide HPOST _ _ (.inl ⟨unhide HP, rfl⟩), E0.trans EK⟩
          · have hp := unhide hstop (by simp [mbad, ha0])
            have HP := hide hp
            have haI : ((a : Int) != 0) = true := by rw [bne_iff_ne]; omega
            clear hp hstop hnext
            go_wp2
            go_ret2
            exact ⟨unhide HPOST _ _ (.inl ⟨unhide HP, rfl⟩), E0.trans EK⟩
        · have hnl1 : nl = 1 := by have := unhide HLL; simpa using this.symm
          subst hnl1
          have hi0 := unhide HL2 0 (by simp)
          have hi0 : i0 < n := by simpa using hi0
          obtain ⟨bl, ol, rfl, hbl, hcl⟩ := ((unhide HRL).keep (E0.trans EK)).int (k := 0) (by omega)
          rw [Nat.add_zero, li_get [i0] (show 0 < [i0].length by simp)] at hcl
          have hcl : w5.cell? ⟨bl, ol, none⟩ = some (.int .i64 (i0 : Int)) := by simpa using hcl
          have CWt := hide (fun w : World => weight_ok i0 (by omega) w)
          have hg : Wm.fpow 2 i0 < 256 := Wm.fpow_lt (by omega) i0
          have CMu := hide (fun w : World => Mul_any a (Wm.fpow 2 i0) ha hg w)
          have HFF2 : Hid (ff k = a) := hide (unhide HFF)
          have HMB := hide (show mbad [i0] a b = decide (Wm.fmul a (Wm.fpow 2 i0) ≠ b) from rfl)
          have hz := Wm.fmul_lt ha hg
          generalize Wm.fmul a (Wm.fpow 2 i0) = z at *
          generalize Wm.fpow 2 i0 = gg at *
          have HMS2 : Hid (Made w5 W0.heap.size 5 1 (.slice (some ⟨gS, 0, none⟩) m m) m (nats .u8 (mix (fun _ => 0) ss m (k + 1)))) := hide (by rw [mix_skip _ _ hlt (unhide HSS)]; exact unhide HMS)
          clear HMS hcS hfS HSS HSS2 HFF hi0
          go_wp2_with fail
          refine (unhide CWt _).mono ?_
          rintro e w5 ⟨rfl, rfl⟩
          go_wp2_with fail
          refine (unhide CMu _).mono ?_
          rintro e w5 ⟨rfl, rfl⟩
          by_cases hzb : z = b
          · have hn2 := hide (unhide hnext (by rw [unhide HMB]; simp [hzb]))
            subst hzb
            have HMF2 : Hid (Made (w5.setCell ⟨gF, k, none⟩ (.int .u8 (a : Int))) W0.heap.size 5 1 (.slice (some ⟨gF, 0, none⟩) m m) m (nats .u8 (mix (fun _ => 0) ff m (k + 1)))) := hide (by
              have h1 := (unhide HMF).set (j := k) (by omega) (.int .u8 (a : Int))
              have h2 := unhide HSF
              rw [unhide HFF2] at h2
              rw [nats_set, h2] at h1
              exact h1)
            have HMS3 := hide ((unhide HMS2).other (p := ⟨gF, k, none⟩) (by simp [Value.ownBlock]; omega) (.int .u8 (a : Int)))
            have EK2 := EK.setCell (p := ⟨gF, k, none⟩) hg4.1 (.int .u8 (a : Int))
            clear HMF HMS2 HSF HFF2 HMB hstop hnext
            go_wp2
            go_roundw
            case rel => exact ⟨k + 1, by omega, by go_num, HMF2, HMS3, hn2, EK2⟩
            case measure => simp [intOf]; omega
          · have hp := unhide hstop (by rw [unhide HMB]; simp [hzb])
            have HP := hide hp
            have hzI : ((z : Int) != (b : Int)) = true := by rw [bne_iff_ne]; omega
            clear hp hstop hnext
            go_wp2
            go_ret2
            exact ⟨unhide HPOST _ _ (.inl ⟨unhide HP, rfl⟩), E0.trans EK⟩
        · have hnl2 : nl = 2 := by have := unhide HLL; simpa using this.symm
          subst hnl2
          have hi0 : i0 < n := by simpa using unhide HL2 0 (by simp)
          have hi1 : i1 < n := by simpa using unhide HL2 1 (by simp)
          have hij : i1 ≠ i0 := by simpa using unhide HL3 0 (by simp)
          obtain ⟨bl, ol, rfl, hbl, hcl0⟩ := ((unhide HRL).keep (E0.trans EK)).int (k := 0) (by omega)
          obtain ⟨bl', ol', e1, -, hcl1⟩ := ((unhide HRL).keep (E0.trans EK)).int (k := 1) (by omega)
          injection e1 with e1
          injection e1 with e11 e12
          subst e11; subst e12
          rw [Nat.add_zero, li_get [i0, i1] (show 0 < [i0, i1].length by simp)] at hcl0
          rw [li_get [i0, i1] (show 1 < [i0, i1].length by simp)] at hcl1
          have hcl0 : w5.cell? ⟨bl, ol, none⟩ = some (.int .i64 (i0 : Int)) := by simpa using hcl0
          have hcl1 : w5.cell? ⟨bl, ol + 1, none⟩ = some (.int .i64 (i1 : Int)) := by simpa using hcl1
          have CW0 := hide (fun w : World => weight_ok i0 (by omega) w)
          have CW1 := hide (fun w : World => weight_ok i1 (by omega) w)
          have hg0 : Wm.fpow 2 i0 < 256 := Wm.fpow_lt (by omega) i0
          have hg1 : Wm.fpow 2 i1 < 256 := Wm.fpow_lt (by omega) i1
          have hne := pow2_ne (i := i0) (j := i1) (by omega) (by omega) (fun e => hij e.symm)
          have hx3 := u8_xor_nat (Wm.fpow 2 i0) (Wm.fpow 2 i1) hg0 hg1
          have hlt3 := Wm.xor_lt hg0 hg1
          have CI := hide (fun w : World => Inv_ok (Wm.fpow 2 i0 ^^^ Wm.fpow 2 i1) hne hlt3 w)
          have hv := Wm.fpow_lt hlt3 254
          have Cm1 := hide (fun w : World => Mul_any a (Wm.fpow 2 i1) ha hg1 w)
          have hz1 := Wm.fmul_lt ha hg1
          have hx4 := u8_xor_nat b (Wm.fmul a (Wm.fpow 2 i1)) hb hz1
          have hlt4 := Wm.xor_lt hb hz1
          have Cm2 := hide (fun w : World => Mul_any (b ^^^ Wm.fmul a (Wm.fpow 2 i1)) (Wm.fpow (Wm.fpow 2 i0 ^^^ Wm.fpow 2 i1) 254) hlt4 hv w)
          have hff2 := Wm.fmul_lt hlt4 hv
          have HFF2 : Hid (ff k = Wm.fmul (b ^^^ Wm.fmul a (Wm.fpow 2 i1)) (Wm.fpow (Wm.fpow 2 i0 ^^^ Wm.fpow 2 i1) 254)) := hide (unhide HFF)
          have HSS3 : Hid (ss k = a ^^^ Wm.fmul (b ^^^ Wm.fmul a (Wm.fpow 2 i1)) (Wm.fpow (Wm.fpow 2 i0 ^^^ Wm.fpow 2 i1) 254)) := hide (unhide HSS)
          have hx5 := u8_xor_nat a (Wm.fmul (b ^^^ Wm.fmul a (Wm.fpow 2 i1)) (Wm.fpow (Wm.fpow 2 i0 ^^^ Wm.fpow 2 i1) 254)) ha hff2
          have hn2 := hide (unhide hnext rfl)
          generalize Wm.fmul (b ^^^ Wm.fmul a (Wm.fpow 2 i1)) (Wm.fpow (Wm.fpow 2 i0 ^^^ Wm.fpow 2 i1) 254) = f at *
          generalize b ^^^ Wm.fmul a (Wm.fpow 2 i1) = z2 at *
          generalize Wm.fmul a (Wm.fpow 2 i1) = z1 at *
          generalize Wm.fpow (Wm.fpow 2 i0 ^^^ Wm.fpow 2 i1) 254 = v at *
          generalize Wm.fpow 2 i0 ^^^ Wm.fpow 2 i1 = g01 at *
          generalize Wm.fpow 2 i0 = g0 at *
          generalize Wm.fpow 2 i1 = g1 at *
          generalize a ^^^ f = sv at *
          have HMF2 : Hid (Made ((w5.setCell ⟨gF, k, none⟩ (.int .u8 (f : Int))).setCell ⟨gS, k, none⟩ (.int .u8 (sv : Int))) W0.heap.size 5 1 (.slice (some ⟨gF, 0, none⟩) m m) m (nats .u8 (mix (fun _ => 0) ff m (k + 1)))) := hide (by
            have h1 := (unhide HMF).set (j := k) (by omega) (.int .u8 (f : Int))
            have h2 := unhide HSF
            rw [unhide HFF2] at h2
            rw [nats_set, h2] at h1
            exact h1.other (p := ⟨gS, k, none⟩) (by simp [Value.ownBlock]; omega) _)
          have HMS2 : Hid (Made ((w5.setCell ⟨gF, k, none⟩ (.int .u8 (f : Int))).setCell ⟨gS, k, none⟩ (.int .u8 (sv : Int))) W0.heap.size 5 1 (.slice (some ⟨gS, 0, none⟩) m m) m (nats .u8 (mix (fun _ => 0) ss m (k + 1)))) := hide (by
            have h1 := ((unhide HMS).other (p := ⟨gF, k, none⟩) (by simp [Value.ownBlock]; omega) (.int .u8 (f : Int))).set (j := k) (by omega) (.int .u8 (sv : Int))
            have h2 := unhide HSS2
            rw [unhide HSS3] at h2
            rw [nats_set, h2] at h1
            exact h1)
          have EK2 := (EK.setCell (p := ⟨gF, k, none⟩) hg4.1 (.int .u8 (f : Int))).setCell (p := ⟨gS, k, none⟩) hg4.2.1 (.int .u8 (sv : Int))
          have nF : ¬ gF = gS := hg4.2.2
          have nS : ¬ gS = gF := fun e => hg4.2.2 e.symm
          clear HMF HMS HSF HSS2 HFF2 HSS3 HFF HSS hstop hnext hij hi0 hi1 hne
          go_wp2
          go_quiet ((first | (go_at_call 42; with_reducible exact Calls.quiet_of_same (unhide CW0 _)) | (go_at_call 42; with_reducible exact Calls.quiet_of_same (unhide CW1 _))))
          have HMF3 := hide (show Made (((w5.drewN nq).setCell ⟨gF, k, none⟩ (.int .u8 (f : Int))).setCell ⟨gS, k, none⟩ (.int .u8 (sv : Int))) W0.heap.size 5 1 (.slice (some ⟨gF, 0, none⟩) m m) m (nats .u8 (mix (fun _ => 0) ff m (k + 1))) from unhide HMF2)
          have HMS3 := hide (show Made (((w5.drewN nq).setCell ⟨gF, k, none⟩ (.int .u8 (f : Int))).setCell ⟨gS, k, none⟩ (.int .u8 (sv : Int))) W0.heap.size 5 1 (.slice (some ⟨gS, 0, none⟩) m m) m (nats .u8 (mix (fun _ => 0) ss m (k + 1))) from unhide HMS2)
          have EK3 : Ext W0 (((w5.drewN nq).setCell ⟨gF, k, none⟩ (.int .u8 (f : Int))).setCell ⟨gS, k, none⟩ (.int .u8 (sv : Int))) := ((EK.drewN nq).setCell (p := ⟨gF, k, none⟩) hg4.1 (.int .u8 (f : Int))).setCell (p := ⟨gS, k, none⟩) hg4.2.1 (.int .u8 (sv : Int))
          clear HMF2 HMS2 EK2
          go_wp2_with fail
          refine (unhide CI _).mono ?_
          rintro e wx ⟨rfl, rfl⟩
          go_wp2_with fail
          refine (unhide Cm1 _).mono ?_
          rintro e wx ⟨rfl, rfl⟩
          go_wp2_with fail
          refine (unhide Cm2 _).mono ?_
          rintro e wx ⟨rfl, rfl⟩
          go_wp2
          go_roundw
          case rel => exact ⟨k + 1, by omega, by go_num, HMF3, HMS3, hn2, EK3⟩
          case measure => simp [intOf]; omega
        · exact absurd (unhide HLL) (by simp; omega)
      · obtain rfl : k = m := by omega
        obtain ⟨w4, hw4⟩ : ∃ w4, w4 = wr := ⟨_, rfl⟩
        subst hw4
        obtain ⟨FF, hFF⟩ : ∃ FF, FF = (List.range k).map ff := ⟨_, rfl⟩
        obtain ⟨SS, hSS⟩ : ∃ SS, SS = (List.range k).map ss := ⟨_, rfl⟩
        rw [mix_all, ← hFF] at HMF
        rw [mix_all, ← hSS] at HMS
        rw [← hFF, ← hSS] at HPOST
        have hFl : FF.length = k := by rw [hFF]; simp
        have hSl : SS.length = k := by rw [hSS]; simp
        have HFL := hide hFl
        have HSL := hide hSl
        have HO4 : Hid (Made (w4.alloc (.cells #[.slice (some ⟨gF, 0, none⟩) k k, .slice (some ⟨gS, 0, none⟩) k k] 22)) w.heap.size 9 1 (.slice (some ⟨gO, 0, none⟩) n cO) n (strs (mendT L lost (strN FF) (strN SS) 0))) := hide (((unhide HO).keep hext).keep ((Ext.refl _).alloc _))
        have HB4 : Hid (Buf (w4.alloc (.cells #[.slice (some ⟨gF, 0, none⟩) k k, .slice (some ⟨gS, 0, none⟩) k k] 22)) 0 gF (nats .u8 FF) ∧ Buf (w4.alloc (.cells #[.slice (some ⟨gF, 0, none⟩) k k, .slice (some ⟨gS, 0, none⟩) k k] 22)) 0 gS (nats .u8 SS) ∧
            (w4.alloc (.cells #[.slice (some ⟨gF, 0, none⟩) k k, .slice (some ⟨gS, 0, none⟩) k k] 22)).cell? ⟨w4.heap.size, 0, none⟩ = some (.slice (some ⟨gF, 0, none⟩) k k) ∧ (w4.alloc (.cells #[.slice (some ⟨gF, 0, none⟩) k k, .slice (some ⟨gS, 0, none⟩) k k] 22)).cell? ⟨w4.heap.size, 1, none⟩ = some (.slice (some ⟨gS, 0, none⟩) k k)) := hide
          ⟨(((unhide HMF).mono (Nat.zero_le _)).keep ((Ext.refl _).alloc _)).buf, (((unhide HMS).mono (Nat.zero_le _)).keep ((Ext.refl _).alloc _)).buf, by simp, by simp⟩
        have E4 := And.intro (E0.trans hext) trivial
        have hsz4 := Ext.size hext
        clear HMF HMS HO hFF hSS hext
        go_wp2
        obtain ⟨gl, hgl⟩ : ∃ gl, gl = w4.heap.size := ⟨_, rfl⟩
        rw [← hgl] at HB4 ⊢
        have hglO : gO < gl := by omega
        clear hgl hFl hSl
        go_loopw [133] (fun i wz => ∃ t : Nat, t ≤ 2 ∧ i = .int .i64 t ∧ Hid (Made wz w.heap.size 9 1 (.slice (some ⟨gO, 0, none⟩) n cO) n (strs (mendT L lost (strN FF) (strN SS) t))) ∧
          Hid (Buf wz 0 gF (nats .u8 FF) ∧ Buf wz 0 gS (nats .u8 SS) ∧ wz.cell? ⟨gl, 0, none⟩ = some (.slice (some ⟨gF, 0, none⟩) k k) ∧ wz.cell? ⟨gl, 1, none⟩ = some (.slice (some ⟨gS, 0, none⟩) k k)) ∧ (Ext w wz ∧ True)) (fun i _ => 2 - (intOf i).toNat)
        case atStart => exact ⟨0, by omega, rfl, HO4, HB4, (by repeat (first | exact E4.1 | refine Ext.alloc ?_ _ | refine Ext.drew ?_ | refine Ext.drewN ?_ _ | (refine Ext.trans ?_ (plus_ext _ _)) | (refine Ext.setCell ?_ (by have := Ext.size E4.1; simp; omega) _))), trivial⟩
        case round =>
          clear HO4 HB4 E4
          obtain ⟨t, ht, rfl, HMO, HB, hE⟩ := hrel
          by_cases ht2 : t < 2
          · obtain ⟨B1, B2, c0, c1⟩ := unhide HB
            have ht01 : t = 0 ∨ t = 1 := by omega
            have hpm : ∀ j, j < nl → lost.getD j 0 < n := fun j hj => unhide HL2 j (by have := unhide HLL; omega)
            have HPM := hide hpm
            have HNF : gF ≠ gO := by omega
            have HNS : gS ≠ gO := by omega
            clear hpm
            rcases ht01 with rfl | rfl
            · by_cases hnT : 0 < nl
              · obtain ⟨bl, ol, rfl, hbl, hcl⟩ := ((unhide HRL).keep hE.1).int (k := 0) hnT
                have hlT : 0 < lost.length := by have := unhide HLL; omega
                rw [li_get _ hlT] at hcl
                replace hcl : wr.cell? ⟨bl, ol, none⟩ = _ := hcl
                have hpn := unhide HPM 0 hnT
                have hmt : mendT L lost (strN FF) (strN SS) 1 = (mendT L lost (strN FF) (strN SS) 0).set (lost.getD 0 0) (strN FF) := by
                  show (if 0 < lost.length then _ else _) = _
                  rw [if_pos hlT]; rfl
                have HMT := hide hmt
                have hcv := (B1.keep ((Ext.refl wr).drew)).str (P := Try.prog) (src := 22) (dst := 9) (e := 5) Try.underlying22 Try.underlying5 Try.underlying9 k
                rw [unhide HFL] at hcv
                have hoc := (unhide HMO).cell (k := lost.getD 0 0) hpn
                have hof := (unhide HMO).frozen (lost.getD 0 0)
                have HM1 := hide (show Made (wr.setCell ⟨gO, lost.getD 0 0, none⟩ (.string (strN FF))) w.heap.size 9 1 (.slice (some ⟨gO, 0, none⟩) n cO) n (strs (mendT L lost (strN FF) (strN SS) 1)) from by
                  have h1 := (unhide HMO).set (j := lost.getD 0 0) (by omega) (.string (strN FF))
                  rw [unhide HMT]
                  unfold strs at h1 ⊢
                  rw [List.map_set]
                  exact h1)
                have HB1 := hide (show Buf (wr.setCell ⟨gO, lost.getD 0 0, none⟩ (.string (strN FF))) 0 gF (nats .u8 FF) ∧ Buf (wr.setCell ⟨gO, lost.getD 0 0, none⟩ (.string (strN FF))) 0 gS (nats .u8 SS) ∧ (wr.setCell ⟨gO, lost.getD 0 0, none⟩ (.string (strN FF))).cell? ⟨gl, 0, none⟩ = some (.slice (some ⟨gF, 0, none⟩) k k) ∧ (wr.setCell ⟨gO, lost.getD 0 0, none⟩ (.string (strN FF))).cell? ⟨gl, 1, none⟩ = some (.slice (some ⟨gS, 0, none⟩) k k) from
                  ⟨B1.other (p := ⟨gO, lost.getD 0 0, none⟩) (fun e => HNF e.symm) _, B2.other (p := ⟨gO, lost.getD 0 0, none⟩) (fun e => HNS e.symm) _,
                    (World.cell?_setCell_other _ _ _ _ (by simp only [ne_eq, Addr.mk.injEq, not_and]; omega)).trans c0, (World.cell?_setCell_other _ _ _ _ (by simp only [ne_eq, Addr.mk.injEq, not_and]; omega)).trans c1⟩)
                have EX := And.intro (hE.1.setCell (p := ⟨gO, lost.getD 0 0, none⟩) hgO (.string (strN FF))) trivial
                generalize (strs (mendT L lost (strN FF) (strN SS) 0)).getD (lost.getD 0 0) undef = old at *
                generalize lost.getD 0 0 = p at *
                generalize hsX : strN FF = sx at hcv HM1 HB1 EX
                have hpI : (p : Int) < (n : Int) := by omega
                have hp0 : (0 : Int) ≤ (p : Int) := by omega
                have hTI : ((0 : Nat) : Int) < (nl : Int) := by omega
                clear HMO HB hmt HMT hsX B1 B2
                go_wp2
                go_region_law (fail)
                all_goals
                  go_wp2
                  go_roundw
                  case rel => exact ⟨1, by omega, rfl, hide ((unhide HM1).keep ((Ext.refl _).drew)), hide ⟨(unhide HB1).1.keep ((Ext.refl _).drew), (unhide HB1).2.1.keep ((Ext.refl _).drew), (unhide HB1).2.2.1, (unhide HB1).2.2.2⟩, EX.1.drew, trivial⟩
                  case measure => simp [intOf]
              · have hlT : ¬ 0 < lost.length := by have := unhide HLL; omega
                have HM1 : Hid (Made wr w.heap.size 9 1 (.slice (some ⟨gO, 0, none⟩) n cO) n (strs (mendT L lost (strN FF) (strN SS) 1))) := hide (by
                  show Made wr w.heap.size 9 1 (.slice (some ⟨gO, 0, none⟩) n cO) n (strs (if 0 < lost.length then _ else _))
                  rw [if_neg hlT]; exact unhide HMO)
                have hTI : ¬ ((0 : Nat) : Int) < (nl : Int) := by omega
                clear HMO B1 B2
                go_wp2
                go_roundw
                case rel => exact ⟨1, by omega, rfl, HM1, HB, (by repeat (first | exact hE.1 | refine Ext.alloc ?_ _ | refine Ext.drew ?_ | refine Ext.drewN ?_ _ | (refine Ext.trans ?_ (plus_ext _ _)) | (refine Ext.setCell ?_ (by have := Ext.size hE.1; simp; omega) _))), trivial⟩
                case measure => simp [intOf]

            · by_cases hnT : 1 < nl
              · obtain ⟨bl, ol, rfl, hbl, hcl⟩ := ((unhide HRL).keep hE.1).int (k := 1) hnT
                have hlT : 1 < lost.length := by have := unhide HLL; omega
                rw [li_get _ hlT] at hcl
                replace hcl : wr.cell? ⟨bl, (ol+1), none⟩ = _ := hcl
                have hpn := unhide HPM 1 hnT
                have hmt : mendT L lost (strN FF) (strN SS) 2 = (mendT L lost (strN FF) (strN SS) 1).set (lost.getD 1 0) (strN SS) := by
                  show (if 1 < lost.length then _ else _) = _
                  rw [if_pos hlT]; rfl
                have HMT := hide hmt
                have hcv := (B2.keep ((Ext.refl wr).drew)).str (P := Try.prog) (src := 22) (dst := 9) (e := 5) Try.underlying22 Try.underlying5 Try.underlying9 k
                rw [unhide HSL] at hcv
                have hoc := (unhide HMO).cell (k := lost.getD 1 0) hpn
                have hof := (unhide HMO).frozen (lost.getD 1 0)
                have HM1 := hide (show Made (wr.setCell ⟨gO, lost.getD 1 0, none⟩ (.string (strN SS))) w.heap.size 9 1 (.slice (some ⟨gO, 0, none⟩) n cO) n (strs (mendT L lost (strN FF) (strN SS) 2)) from by
                  have h1 := (unhide HMO).set (j := lost.getD 1 0) (by omega) (.string (strN SS))
                  rw [unhide HMT]
                  unfold strs at h1 ⊢
                  rw [List.map_set]
                  exact h1)
                have HB1 := hide (show Buf (wr.setCell ⟨gO, lost.getD 1 0, none⟩ (.string (strN SS))) 0 gF (nats .u8 FF) ∧ Buf (wr.setCell ⟨gO, lost.getD 1 0, none⟩ (.string (strN SS))) 0 gS (nats .u8 SS) ∧ (wr.setCell ⟨gO, lost.getD 1 0, none⟩ (.string (strN SS))).cell? ⟨gl, 0, none⟩ = some (.slice (some ⟨gF, 0, none⟩) k k) ∧ (wr.setCell ⟨gO, lost.getD 1 0, none⟩ (.string (strN SS))).cell? ⟨gl, 1, none⟩ = some (.slice (some ⟨gS, 0, none⟩) k k) from
                  ⟨B1.other (p := ⟨gO, lost.getD 1 0, none⟩) (fun e => HNF e.symm) _, B2.other (p := ⟨gO, lost.getD 1 0, none⟩) (fun e => HNS e.symm) _,
                    (World.cell?_setCell_other _ _ _ _ (by simp only [ne_eq, Addr.mk.injEq, not_and]; omega)).trans c0, (World.cell?_setCell_other _ _ _ _ (by simp only [ne_eq, Addr.mk.injEq, not_and]; omega)).trans c1⟩)
                have EX := And.intro (hE.1.setCell (p := ⟨gO, lost.getD 1 0, none⟩) hgO (.string (strN SS))) trivial
                generalize (strs (mendT L lost (strN FF) (strN SS) 1)).getD (lost.getD 1 0) undef = old at *
                generalize lost.getD 1 0 = p at *
                generalize hsX : strN SS = sx at hcv HM1 HB1 EX
                have hpI : (p : Int) < (n : Int) := by omega
                have hp0 : (0 : Int) ≤ (p : Int) := by omega
                have hTI : ((1 : Nat) : Int) < (nl : Int) := by omega
                clear HMO HB hmt HMT hsX B1 B2
                go_wp2
                go_region_law (fail)
                all_goals
                  go_wp2
                  go_roundw
                  case rel => exact ⟨2, by omega, rfl, hide ((unhide HM1).keep ((Ext.refl _).drew)), hide ⟨(unhide HB1).1.keep ((Ext.refl _).drew), (unhide HB1).2.1.keep ((Ext.refl _).drew), (unhide HB1).2.2.1, (unhide HB1).2.2.2⟩, EX.1.drew, trivial⟩
                  case measure => simp [intOf]
              · have hlT : ¬ 1 < lost.length := by have := unhide HLL; omega
                have HM1 : Hid (Made wr w.heap.size 9 1 (.slice (some ⟨gO, 0, none⟩) n cO) n (strs (mendT L lost (strN FF) (strN SS) 2))) := hide (by
                  show Made wr w.heap.size 9 1 (.slice (some ⟨gO, 0, none⟩) n cO) n (strs (if 1 < lost.length then _ else _))
                  rw [if_neg hlT]; exact unhide HMO)
                have hTI : ¬ ((1 : Nat) : Int) < (nl : Int) := by omega
                clear HMO B1 B2
                go_wp2
                go_roundw
                case rel => exact ⟨2, by omega, rfl, HM1, HB, (by repeat (first | exact hE.1 | refine Ext.alloc ?_ _ | refine Ext.drew ?_ | refine Ext.drewN ?_ _ | (refine Ext.trans ?_ (plus_ext _ _)) | (refine Ext.setCell ?_ (by have := Ext.size hE.1; simp; omega) _))), trivial⟩
                case measure => simp [intOf]

          · obtain rfl : t = 2 := by omega
            have hq := (unhide HMO).open_
            obtain ⟨A', c', e', R', -⟩ := hq
            injection e' with e1 e2 e3
            subst e1
            have HRF := hide R'
            have CCl := hide (clip_str (some ⟨gO, 0, none⟩) n cO wr hcO.1 hcO.2 (fun h => by cases h))
            clear HMO HB e2 e3 R'
            go_wp2_with fail
            refine (unhide CCl).mono ?_
            rintro e wx ⟨rfl, rfl⟩
            go_wp2
            go_ret2
            exact ⟨unhide HPOST _ _ (.inr ⟨unhide hbad, _, rfl, unhide HRF⟩), (by repeat (first | exact hE.1 | refine Ext.alloc ?_ _ | refine Ext.drew ?_ | refine Ext.drewN ?_ _ | (refine Ext.trans ?_ (plus_ext _ _)) | (refine Ext.setCell ?_ (by have := Ext.size hE.1; simp; omega) _)))⟩

  · obtain ⟨gF, hgF⟩ : ∃ g, g = W0.heap.size + 1 := ⟨_, rfl⟩
    obtain ⟨gS, hgS⟩ : ∃ g, g = W0.heap.size := ⟨_, rfl⟩
    have hg4 : W0.heap.size ≤ gF ∧ W0.heap.size ≤ gS ∧ gF ≠ gS := by omega
    have MF : Made ((W0.alloc Q).alloc Q).drew W0.heap.size 5 1 (.slice (some ⟨gF, 0, none⟩) m m) m (nats .u8 (mix (fun _ => 0) ff m 0)) := by
      rw [mix_zero, ← zerosP m _ (fun _ => rfl), hgF]; exact unhide HM1
    have MS : Made ((W0.alloc Q).alloc Q).drew W0.heap.size 5 1 (.slice (some ⟨gS, 0, none⟩) m m) m (nats .u8 (mix (fun _ => 0) ss m 0)) := by
      rw [mix_zero, ← zerosP m _ (fun _ => rfl), hgS]; exact unhide HM0
    first | rw [← hgF, ← hgS] | rw [← hgS, ← hgF]
    generalize ((W0.alloc Q).alloc Q).drew = W at *
    have HMF := hide MF
    have HMS := hide MS
    clear hgF hgS HM0 HM1 HQ MF MS
    go_wp2
    go_loopw [49] (fun i wr => ∃ k : Nat, k ≤ m ∧ i = .int .i64 k ∧ Hid (Made wr W0.heap.size 5 1 (.slice (some ⟨gF, 0, none⟩) m m) m (nats .u8 (mix (fun _ => 0) ff m k))) ∧
      Hid (Made wr W0.heap.size 5 1 (.slice (some ⟨gS, 0, none⟩) m m) m (nats .u8 (mix (fun _ => 0) ss m k))) ∧ Hid (∀ j, j < k → mbad lost (aa j) (bb j) = false) ∧ Ext W0 wr) (fun i _ => m - (intOf i).toNat)
    case atStart => exact ⟨0, Nat.zero_le _, rfl, HMF, HMS, hide (fun j h => by omega), EW⟩
    case round =>
      clear HMF HMS EW
      obtain ⟨k, hk, rfl, HMF, HMS, hbad, hext⟩ := hrel
      by_cases hlt : k < m
      · have hcx := ((unhide HX).keep hext).nat hlt
        have hcy := ((unhide HY).keep hext).nat hlt
        rw [mapr_get _ hlt] at hcx hcy
        have hbP := byt_get P k (by omega)
        have hbQ := byt_get Qs k (by omega)
        have hkP : (k : Int) < (P.size : Int) := by omega
        have hkQ : (k : Int) < (Qs.size : Int) := by omega
        have hk0 : (0 : Int) ≤ (k : Int) := by omega
        have hkm : (k : Int) < (m : Int) := by omega
        have hx1 := u8_xor_nat (xx k) (byt P k) (unhide HXL k) (byt_lt _ _)
        have hx2 := u8_xor_nat (yy k) (byt Qs k) (unhide HYL k) (byt_lt _ _)
        have ha : aa k < 256 := by rw [unhide haa k]; exact Wm.xor_lt (unhide HXL k) (byt_lt _ _)
        have hb : bb k < 256 := by rw [unhide hbb k]; exact Wm.xor_lt (unhide HYL k) (byt_lt _ _)
        have hsF := mix_set (fun _ => 0) ff hlt
        have hsS := mix_set (fun _ => 0) ss hlt
        have HFF := hide (unhide hff k)
        have HSS := hide (unhide hss k)
        have hnext : Hid (∀ (_ : mbad lost (aa k) (bb k) = false), ∀ j, j < k + 1 → mbad lost (aa j) (bb j) = false) := hide fun h j hj => by
          by_cases hjk : j < k
          · exact unhide hbad j hjk
          · obtain rfl : j = k := by omega
            exact h
        have hstop : Hid (∀ (_ : mbad lost (aa k) (bb k) = true), ∃ j, j < m ∧ mbad lost (aa j) (bb j) = true) := hide fun h => ⟨k, hlt, h⟩
        have hax := unhide haa k
        have hbx := unhide hbb k
        rw [← hax] at hx1
        rw [← hbx] at hx2
        have HSF := hide hsF
        have HSS2 := hide hsS
        clear hax hbx hsF hsS
        generalize aa k = a at *
        generalize bb k = b at *
        generalize xx k = x0 at *
        generalize yy k = y0 at *
        generalize byt P k = p0 at *
        generalize byt Qs k = q0 at *
        go_upto_region 10 with fail
        go_quiet (fail)
        have EK := hext.drewN nq
        have HMF := hide ((unhide HMF).keep ((Ext.refl wr).drewN nq))
        have HMS := hide ((unhide HMS).keep ((Ext.refl wr).drewN nq))
        clear hcx hcy hbP hbQ hx1 hx2 hext
        generalize wr.drewN nq = w5 at *
        have hcF := (unhide HMF).nat (k := k) hlt
        rw [mix_get _ _ hlt] at hcF
        have hfF := (unhide HMF).frozen k
        have hcS := (unhide HMS).nat (k := k) hlt
        rw [mix_get _ _ hlt] at hcS
        have hfS := (unhide HMS).frozen k
        rcases lost with _ | ⟨i0, _ | ⟨i1, _ | _⟩⟩
        · have hnl0 : nl = 0 := by have := unhide HLL; simpa using this.symm
          subst hnl0
          have HMF2 : Hid (Made w5 W0.heap.size 5 1 (.slice (some ⟨gF, 0, none⟩) m m) m (nats .u8 (mix (fun _ => 0) ff m (k + 1)))) := hide (by rw [mix_skip _ _ hlt (unhide HFF)]; exact unhide HMF)
          have HMS2 : Hid (Made w5 W0.heap.size 5 1 (.slice (some ⟨gS, 0, none⟩) m m) m (nats .u8 (mix (fun _ => 0) ss m (k + 1)))) := hide (by rw [mix_skip _ _ hlt (unhide HSS)]; exact unhide HMS)
          clear HMF HMS hcF hfF hcS hfS HFF HSS HSF HSS2
          by_cases ha0 : a = 0
          · by_cases hb0 : b = 0
            · have hn2 := hide (unhide hnext (by simp [mbad, ha0, hb0]))
              subst ha0; subst hb0
              go_wp2
              go_roundw
              case rel => exact ⟨k + 1, by omega, by go_num, HMF2, HMS2, hn2, EK⟩
              case measure => simp [intOf]; omega
            · have hp := unhide hstop (by simp [mbad, hb0])
              have HP := hide hp
              have hbI : ((b : Int) != 0) = true := by rw [bne_iff_ne]; omega
              clear hp hstop hnext
              subst ha0
              go_wp2
              go_ret2
              exact ⟨unhide HPOST _ _ (.inl ⟨unhide HP, rfl⟩), E0.trans EK⟩
          · have hp := unhide hstop (by simp [mbad, ha0])
            have HP := hide hp
            have haI : ((a : Int) != 0) = true := by rw [bne_iff_ne]; omega
            clear hp hstop hnext
            go_wp2
            go_ret2
            exact ⟨unhide HPOST _ _ (.inl ⟨unhide HP, rfl⟩), E0.trans EK⟩
        · have hnl1 : nl = 1 := by have := unhide HLL; simpa using this.symm
          subst hnl1
          have hi0 := unhide HL2 0 (by simp)
          have hi0 : i0 < n := by simpa using hi0
          obtain ⟨bl, ol, rfl, hbl, hcl⟩ := ((unhide HRL).keep (E0.trans EK)).int (k := 0) (by omega)
          rw [Nat.add_zero, li_get [i0] (show 0 < [i0].length by simp)] at hcl
          have hcl : w5.cell? ⟨bl, ol, none⟩ = some (.int .i64 (i0 : Int)) := by simpa using hcl
          have CWt := hide (fun w : World => weight_ok i0 (by omega) w)
          have hg : Wm.fpow 2 i0 < 256 := Wm.fpow_lt (by omega) i0
          have CMu := hide (fun w : World => Mul_any a (Wm.fpow 2 i0) ha hg w)
          have HFF2 : Hid (ff k = a) := hide (unhide HFF)
          have HMB := hide (show mbad [i0] a b = decide (Wm.fmul a (Wm.fpow 2 i0) ≠ b) from rfl)
          have hz := Wm.fmul_lt ha hg
          generalize Wm.fmul a (Wm.fpow 2 i0) = z at *
          generalize Wm.fpow 2 i0 = gg at *
          have HMS2 : Hid (Made w5 W0.heap.size 5 1 (.slice (some ⟨gS, 0, none⟩) m m) m (nats .u8 (mix (fun _ => 0) ss m (k + 1)))) := hide (by rw [mix_skip _ _ hlt (unhide HSS)]; exact unhide HMS)
          clear HMS hcS hfS HSS HSS2 HFF hi0
          go_wp2_with fail
          refine (unhide CWt _).mono ?_
          rintro e w5 ⟨rfl, rfl⟩
          go_wp2_with fail
          refine (unhide CMu _).mono ?_
          rintro e w5 ⟨rfl, rfl⟩
          by_cases hzb : z = b
          · have hn2 := hide (unhide hnext (by rw [unhide HMB]; simp [hzb]))
            subst hzb
            have HMF2 : Hid (Made (w5.setCell ⟨gF, k, none⟩ (.int .u8 (a : Int))) W0.heap.size 5 1 (.slice (some ⟨gF, 0, none⟩) m m) m (nats .u8 (mix (fun _ => 0) ff m (k + 1)))) := hide (by
              have h1 := (unhide HMF).set (j := k) (by omega) (.int .u8 (a : Int))
              have h2 := unhide HSF
              rw [unhide HFF2] at h2
              rw [nats_set, h2] at h1
              exact h1)
            have HMS3 := hide ((unhide HMS2).other (p := ⟨gF, k, none⟩) (by simp [Value.ownBlock]; omega) (.int .u8 (a : Int)))
            have EK2 := EK.setCell (p := ⟨gF, k, none⟩) hg4.1 (.int .u8 (a : Int))
            clear HMF HMS2 HSF HFF2 HMB hstop hnext
            go_wp2
            go_roundw
            case rel => exact ⟨k + 1, by omega, by go_num, HMF2, HMS3, hn2, EK2⟩
            case measure => simp [intOf]; omega
          · have hp := unhide hstop (by rw [unhide HMB]; simp [hzb])
            have HP := hide hp
            have hzI : ((z : Int) != (b : Int)) = true := by rw [bne_iff_ne]; omega
            clear hp hstop hnext
            go_wp2
            go_ret2
            exact ⟨unhide HPOST _ _ (.inl ⟨unhide HP, rfl⟩), E0.trans EK⟩
        · have hnl2 : nl = 2 := by have := unhide HLL; simpa using this.symm
          subst hnl2
          have hi0 : i0 < n := by simpa using unhide HL2 0 (by simp)
          have hi1 : i1 < n := by simpa using unhide HL2 1 (by simp)
          have hij : i1 ≠ i0 := by simpa using unhide HL3 0 (by simp)
          obtain ⟨bl, ol, rfl, hbl, hcl0⟩ := ((unhide HRL).keep (E0.trans EK)).int (k := 0) (by omega)
          obtain ⟨bl', ol', e1, -, hcl1⟩ := ((unhide HRL).keep (E0.trans EK)).int (k := 1) (by omega)
          injection e1 with e1
          injection e1 with e11 e12
          subst e11; subst e12
          rw [Nat.add_zero, li_get [i0, i1] (show 0 < [i0, i1].length by simp)] at hcl0
          rw [li_get [i0, i1] (show 1 < [i0, i1].length by simp)] at hcl1
          have hcl0 : w5.cell? ⟨bl, ol, none⟩ = some (.int .i64 (i0 : Int)) := by simpa using hcl0
          have hcl1 : w5.cell? ⟨bl, ol + 1, none⟩ = some (.int .i64 (i1 : Int)) := by simpa using hcl1
          have CW0 := hide (fun w : World => weight_ok i0 (by omega) w)
          have CW1 := hide (fun w : World => weight_ok i1 (by omega) w)
          have hg0 : Wm.fpow 2 i0 < 256 := Wm.fpow_lt (by omega) i0
          have hg1 : Wm.fpow 2 i1 < 256 := Wm.fpow_lt (by omega) i1
          have hne := pow2_ne (i := i0) (j := i1) (by omega) (by omega) (fun e => hij e.symm)
          have hx3 := u8_xor_nat (Wm.fpow 2 i0) (Wm.fpow 2 i1) hg0 hg1
          have hlt3 := Wm.xor_lt hg0 hg1
          have CI := hide (fun w : World => Inv_ok (Wm.fpow 2 i0 ^^^ Wm.fpow 2 i1) hne hlt3 w)
          have hv := Wm.fpow_lt hlt3 254
          have Cm1 := hide (fun w : World => Mul_any a (Wm.fpow 2 i1) ha hg1 w)
          have hz1 := Wm.fmul_lt ha hg1
          have hx4 := u8_xor_nat b (Wm.fmul a (Wm.fpow 2 i1)) hb hz1
          have hlt4 := Wm.xor_lt hb hz1
          have Cm2 := hide (fun w : World => Mul_any (b ^^^ Wm.fmul a (Wm.fpow 2 i1)) (Wm.fpow (Wm.fpow 2 i0 ^^^ Wm.fpow 2 i1) 254) hlt4 hv w)
          have hff2 := Wm.fmul_lt hlt4 hv
          have HFF2 : Hid (ff k = Wm.fmul (b ^^^ Wm.fmul a (Wm.fpow 2 i1)) (Wm.fpow (Wm.fpow 2 i0 ^^^ Wm.fpow 2 i1) 254)) := hide (unhide HFF)
          have HSS3 : Hid (ss k = a ^^^ Wm.fmul (b ^^^ Wm.fmul a (Wm.fpow 2 i1)) (Wm.fpow (Wm.fpow 2 i0 ^^^ Wm.fpow 2 i1) 254)) := hide (unhide HSS)
          have hx5 := u8_xor_nat a (Wm.fmul (b ^^^ Wm.fmul a (Wm.fpow 2 i1)) (Wm.fpow (Wm.fpow 2 i0 ^^^ Wm.fpow 2 i1) 254)) ha hff2
          have hn2 := hide (unhide hnext rfl)
          generalize Wm.fmul (b ^^^ Wm.fmul a (Wm.fpow 2 i1)) (Wm.fpow (Wm.fpow 2 i0 ^^^ Wm.fpow 2 i1) 254) = f at *
          generalize b ^^^ Wm.fmul a (Wm.fpow 2 i1) = z2 at *
          generalize Wm.fmul a (Wm.fpow 2 i1) = z1 at *
          generalize Wm.fpow (Wm.fpow 2 i0 ^^^ Wm.fpow 2 i1) 254 = v at *
          generalize Wm.fpow 2 i0 ^^^ Wm.fpow 2 i1 = g01 at *
          generalize Wm.fpow 2 i0 = g0 at *
          generalize Wm.fpow 2 i1 = g1 at *
          generalize a ^^^ f = sv at *
          have HMF2 : Hid (Made ((w5.setCell ⟨gF, k, none⟩ (.int .u8 (f : Int))).setCell ⟨gS, k, none⟩ (.int .u8 (sv : Int))) W0.heap.size 5 1 (.slice (some ⟨gF, 0, none⟩) m m) m (nats .u8 (mix (fun _ => 0) ff m (k + 1)))) := hide (by
            have h1 := (unhide HMF).set (j := k) (by omega) (.int .u8 (f : Int))
            have h2 := unhide HSF
            rw [unhide HFF2] at h2
            rw [nats_set, h2] at h1
            exact h1.other (p := ⟨gS, k, none⟩) (by simp [Value.ownBlock]; omega) _)
          have HMS2 : Hid (Made ((w5.setCell ⟨gF, k, none⟩ (.int .u8 (f : Int))).setCell ⟨gS, k, none⟩ (.int .u8 (sv : Int))) W0.heap.size 5 1 (.slice (some ⟨gS, 0, none⟩) m m) m (nats .u8 (mix (fun _ => 0) ss m (k + 1)))) := hide (by
            have h1 := ((unhide HMS).other (p := ⟨gF, k, none⟩) (by simp [Value.ownBlock]; omega) (.int .u8 (f : Int))).set (j := k) (by omega) (.int .u8 (sv : Int))
            have h2 := unhide HSS2
            rw [unhide HSS3] at h2
            rw [nats_set, h2] at h1
            exact h1)
          have EK2 := (EK.setCell (p := ⟨gF, k, none⟩) hg4.1 (.int .u8 (f : Int))).setCell (p := ⟨gS, k, none⟩) hg4.2.1 (.int .u8 (sv : Int))
          have nF : ¬ gF = gS := hg4.2.2
          have nS : ¬ gS = gF := fun e => hg4.2.2 e.symm
          clear HMF HMS HSF HSS2 HFF2 HSS3 HFF HSS hstop hnext hij hi0 hi1 hne
          go_wp2
          go_quiet ((first | (go_at_call 42; with_reducible exact Calls.quiet_of_same (unhide CW0 _)) | (go_at_call 42; with_reducible exact Calls.quiet_of_same (unhide CW1 _))))
          have HMF3 := hide (show Made (((w5.drewN nq).setCell ⟨gF, k, none⟩ (.int .u8 (f : Int))).setCell ⟨gS, k, none⟩ (.int .u8 (sv : Int))) W0.heap.size 5 1 (.slice (some ⟨gF, 0, none⟩) m m) m (nats .u8 (mix (fun _ => 0) ff m (k + 1))) from unhide HMF2)
          have HMS3 := hide (show Made (((w5.drewN nq).setCell ⟨gF, k, none⟩ (.int .u8 (f : Int))).setCell ⟨gS, k, none⟩ (.int .u8 (sv : Int))) W0.heap.size 5 1 (.slice (some ⟨gS, 0, none⟩) m m) m (nats .u8 (mix (fun _ => 0) ss m (k + 1))) from unhide HMS2)
          have EK3 : Ext W0 (((w5.drewN nq).setCell ⟨gF, k, none⟩ (.int .u8 (f : Int))).setCell ⟨gS, k, none⟩ (.int .u8 (sv : Int))) := ((EK.drewN nq).setCell (p := ⟨gF, k, none⟩) hg4.1 (.int .u8 (f : Int))).setCell (p := ⟨gS, k, none⟩) hg4.2.1 (.int .u8 (sv : Int))
          clear HMF2 HMS2 EK2
          go_wp2_with fail
          refine (unhide CI _).mono ?_
          rintro e wx ⟨rfl, rfl⟩
          go_wp2_with fail
          refine (unhide Cm1 _).mono ?_
          rintro e wx ⟨rfl, rfl⟩
          go_wp2_with fail
          refine (unhide Cm2 _).mono ?_
          rintro e wx ⟨rfl, rfl⟩
          go_wp2
          go_roundw
          case rel => exact ⟨k + 1, by omega, by go_num, HMF3, HMS3, hn2, EK3⟩
          case measure => simp [intOf]; omega
        · exact absurd (unhide HLL) (by simp; omega)
      · obtain rfl : k = m := by omega
        obtain ⟨w4, hw4⟩ : ∃ w4, w4 = wr := ⟨_, rfl⟩
        subst hw4
        obtain ⟨FF, hFF⟩ : ∃ FF, FF = (List.range k).map ff := ⟨_, rfl⟩
        obtain ⟨SS, hSS⟩ : ∃ SS, SS = (List.range k).map ss := ⟨_, rfl⟩
        rw [mix_all, ← hFF] at HMF
        rw [mix_all, ← hSS] at HMS
        rw [← hFF, ← hSS] at HPOST
        have hFl : FF.length = k := by rw [hFF]; simp
        have hSl : SS.length = k := by rw [hSS]; simp
        have HFL := hide hFl
        have HSL := hide hSl
        have HO4 : Hid (Made (w4.alloc (.cells #[.slice (some ⟨gF, 0, none⟩) k k, .slice (some ⟨gS, 0, none⟩) k k] 22)) w.heap.size 9 1 (.slice (some ⟨gO, 0, none⟩) n cO) n (strs (mendT L lost (strN FF) (strN SS) 0))) := hide (((unhide HO).keep hext).keep ((Ext.refl _).alloc _))
        have HB4 : Hid (Buf (w4.alloc (.cells #[.slice (some ⟨gF, 0, none⟩) k k, .slice (some ⟨gS, 0, none⟩) k k] 22)) 0 gF (nats .u8 FF) ∧ Buf (w4.alloc (.cells #[.slice (some ⟨gF, 0, none⟩) k k, .slice (some ⟨gS, 0, none⟩) k k] 22)) 0 gS (nats .u8 SS) ∧
            (w4.alloc (.cells #[.slice (some ⟨gF, 0, none⟩) k k, .slice (some ⟨gS, 0, none⟩) k k] 22)).cell? ⟨w4.heap.size, 0, none⟩ = some (.slice (some ⟨gF, 0, none⟩) k k) ∧ (w4.alloc (.cells #[.slice (some ⟨gF, 0, none⟩) k k, .slice (some ⟨gS, 0, none⟩) k k] 22)).cell? ⟨w4.heap.size, 1, none⟩ = some (.slice (some ⟨gS, 0, none⟩) k k)) := hide
          ⟨(((unhide HMF).mono (Nat.zero_le _)).keep ((Ext.refl _).alloc _)).buf, (((unhide HMS).mono (Nat.zero_le _)).keep ((Ext.refl _).alloc _)).buf, by simp, by simp⟩
        have E4 := And.intro (E0.trans hext) trivial
        have hsz4 := Ext.size hext
        clear HMF HMS HO hFF hSS hext
        go_wp2
        obtain ⟨gl, hgl⟩ : ∃ gl, gl = w4.heap.size := ⟨_, rfl⟩
        rw [← hgl] at HB4 ⊢
        have hglO : gO < gl := by omega
        clear hgl hFl hSl
        go_loopw [133] (fun i wz => ∃ t : Nat, t ≤ 2 ∧ i = .int .i64 t ∧ Hid (Made wz w.heap.size 9 1 (.slice (some ⟨gO, 0, none⟩) n cO) n (strs (mendT L lost (strN FF) (strN SS) t))) ∧
          Hid (Buf wz 0 gF (nats .u8 FF) ∧ Buf wz 0 gS (nats .u8 SS) ∧ wz.cell? ⟨gl, 0, none⟩ = some (.slice (some ⟨gF, 0, none⟩) k k) ∧ wz.cell? ⟨gl, 1, none⟩ = some (.slice (some ⟨gS, 0, none⟩) k k)) ∧ (Ext w wz ∧ True)) (fun i _ => 2 - (intOf i).toNat)
        case atStart => exact ⟨0, by omega, rfl, HO4, HB4, (by repeat (first | exact E4.1 | refine Ext.alloc ?_ _ | refine Ext.drew ?_ | refine Ext.drewN ?_ _ | (refine Ext.trans ?_ (plus_ext _ _)) | (refine Ext.setCell ?_ (by have := Ext.size E4.1; simp; omega) _))), trivial⟩
        case round =>
          clear HO4 HB4 E4
          obtain ⟨t, ht, rfl, HMO, HB, hE⟩ := hrel
          by_cases ht2 : t < 2
          · obtain ⟨B1, B2, c0, c1⟩ := unhide HB
            have ht01 : t = 0 ∨ t = 1 := by omega
            have hpm : ∀ j, j < nl → lost.getD j 0 < n := fun j hj => unhide HL2 j (by have := unhide HLL; omega)
            have HPM := hide hpm
            have HNF : gF ≠ gO := by omega
            have HNS : gS ≠ gO := by omega
            clear hpm
            rcases ht01 with rfl | rfl
            · by_cases hnT : 0 < nl
              · obtain ⟨bl, ol, rfl, hbl, hcl⟩ := ((unhide HRL).keep hE.1).int (k := 0) hnT
                have hlT : 0 < lost.length := by have := unhide HLL; omega
                rw [li_get _ hlT] at hcl
                replace hcl : wr.cell? ⟨bl, ol, none⟩ = _ := hcl
                have hpn := unhide HPM 0 hnT
                have hmt : mendT L lost (strN FF) (strN SS) 1 = (mendT L lost (strN FF) (strN SS) 0).set (lost.getD 0 0) (strN FF) := by
                  show (if 0 < lost.length then _ else _) = _
                  rw [if_pos hlT]; rfl
                have HMT := hide hmt
                have hcv := (B1.keep ((Ext.refl wr).drew)).str (P := Try.prog) (src := 22) (dst := 9) (e := 5) Try.underlying22 Try.underlying5 Try.underlying9 k
                rw [unhide HFL] at hcv
                have hoc := (unhide HMO).cell (k := lost.getD 0 0) hpn
                have hof := (unhide HMO).frozen (lost.getD 0 0)
                have HM1 := hide (show Made (wr.setCell ⟨gO, lost.getD 0 0, none⟩ (.string (strN FF))) w.heap.size 9 1 (.slice (some ⟨gO, 0, none⟩) n cO) n (strs (mendT L lost (strN FF) (strN SS) 1)) from by
                  have h1 := (unhide HMO).set (j := lost.getD 0 0) (by omega) (.string (strN FF))
                  rw [unhide HMT]
                  unfold strs at h1 ⊢
                  rw [List.map_set]
                  exact h1)
                have HB1 := hide (show Buf (wr.setCell ⟨gO, lost.getD 0 0, none⟩ (.string (strN FF))) 0 gF (nats .u8 FF) ∧ Buf (wr.setCell ⟨gO, lost.getD 0 0, none⟩ (.string (strN FF))) 0 gS (nats .u8 SS) ∧ (wr.setCell ⟨gO, lost.getD 0 0, none⟩ (.string (strN FF))).cell? ⟨gl, 0, none⟩ = some (.slice (some ⟨gF, 0, none⟩) k k) ∧ (wr.setCell ⟨gO, lost.getD 0 0, none⟩ (.string (strN FF))).cell? ⟨gl, 1, none⟩ = some (.slice (some ⟨gS, 0, none⟩) k k) from
                  ⟨B1.other (p := ⟨gO, lost.getD 0 0, none⟩) (fun e => HNF e.symm) _, B2.other (p := ⟨gO, lost.getD 0 0, none⟩) (fun e => HNS e.symm) _,
                    (World.cell?_setCell_other _ _ _ _ (by simp only [ne_eq, Addr.mk.injEq, not_and]; omega)).trans c0, (World.cell?_setCell_other _ _ _ _ (by simp only [ne_eq, Addr.mk.injEq, not_and]; omega)).trans c1⟩)
                have EX := And.intro (hE.1.setCell (p := ⟨gO, lost.getD 0 0, none⟩) hgO (.string (strN FF))) trivial
                generalize (strs (mendT L lost (strN FF) (strN SS) 0)).getD (lost.getD 0 0) undef = old at *
                generalize lost.getD 0 0 = p at *
                generalize hsX : strN FF = sx at hcv HM1 HB1 EX
                have hpI : (p : Int) < (n : Int) := by omega
                have hp0 : (0 : Int) ≤ (p : Int) := by omega
                have hTI : ((0 : Nat) : Int) < (nl : Int) := by omega
                clear HMO HB hmt HMT hsX B1 B2
                go_wp2
                go_region_law (fail)
                all_goals
                  go_wp2
                  go_roundw
                  case rel => exact ⟨1, by omega, rfl, hide ((unhide HM1).keep ((Ext.refl _).drew)), hide ⟨(unhide HB1).1.keep ((Ext.refl _).drew), (unhide HB1).2.1.keep ((Ext.refl _).drew), (unhide HB1).2.2.1, (unhide HB1).2.2.2⟩, EX.1.drew, trivial⟩
                  case measure => simp [intOf]
              · have hlT : ¬ 0 < lost.length := by have := unhide HLL; omega
                have HM1 : Hid (Made wr w.heap.size 9 1 (.slice (some ⟨gO, 0, none⟩) n cO) n (strs (mendT L lost (strN FF) (strN SS) 1))) := hide (by
                  show Made wr w.heap.size 9 1 (.slice (some ⟨gO, 0, none⟩) n cO) n (strs (if 0 < lost.length then _ else _))
                  rw [if_neg hlT]; exact unhide HMO)
                have hTI : ¬ ((0 : Nat) : Int) < (nl : Int) := by omega
                clear HMO B1 B2
                go_wp2
                go_roundw
                case rel => exact ⟨1, by omega, rfl, HM1, HB, (by repeat (first | exact hE.1 | refine Ext.alloc ?_ _ | refine Ext.drew ?_ | refine Ext.drewN ?_ _ | (refine Ext.trans ?_ (plus_ext _ _)) | (refine Ext.setCell ?_ (by have := Ext.size hE.1; simp; omega) _))), trivial⟩
                case measure => simp [intOf]

            · by_cases hnT : 1 < nl
              · obtain ⟨bl, ol, rfl, hbl, hcl⟩ := ((unhide HRL).keep hE.1).int (k := 1) hnT
                have hlT : 1 < lost.length := by have := unhide HLL; omega
                rw [li_get _ hlT] at hcl
                replace hcl : wr.cell? ⟨bl, (ol+1), none⟩ = _ := hcl
                have hpn := unhide HPM 1 hnT
                have hmt : mendT L lost (strN FF) (strN SS) 2 = (mendT L lost (strN FF) (strN SS) 1).set (lost.getD 1 0) (strN SS) := by
                  show (if 1 < lost.length then _ else _) = _
                  rw [if_pos hlT]; rfl
                have HMT := hide hmt
                have hcv := (B2.keep ((Ext.refl wr).drew)).str (P := Try.prog) (src := 22) (dst := 9) (e := 5) Try.underlying22 Try.underlying5 Try.underlying9 k
                rw [unhide HSL] at hcv
                have hoc := (unhide HMO).cell (k := lost.getD 1 0) hpn
                have hof := (unhide HMO).frozen (lost.getD 1 0)
                have HM1 := hide (show Made (wr.setCell ⟨gO, lost.getD 1 0, none⟩ (.string (strN SS))) w.heap.size 9 1 (.slice (some ⟨gO, 0, none⟩) n cO) n (strs (mendT L lost (strN FF) (strN SS) 2)) from by
                  have h1 := (unhide HMO).set (j := lost.getD 1 0) (by omega) (.string (strN SS))
                  rw [unhide HMT]
                  unfold strs at h1 ⊢
                  rw [List.map_set]
                  exact h1)
                have HB1 := hide (show Buf (wr.setCell ⟨gO, lost.getD 1 0, none⟩ (.string (strN SS))) 0 gF (nats .u8 FF) ∧ Buf (wr.setCell ⟨gO, lost.getD 1 0, none⟩ (.string (strN SS))) 0 gS (nats .u8 SS) ∧ (wr.setCell ⟨gO, lost.getD 1 0, none⟩ (.string (strN SS))).cell? ⟨gl, 0, none⟩ = some (.slice (some ⟨gF, 0, none⟩) k k) ∧ (wr.setCell ⟨gO, lost.getD 1 0, none⟩ (.string (strN SS))).cell? ⟨gl, 1, none⟩ = some (.slice (some ⟨gS, 0, none⟩) k k) from
                  ⟨B1.other (p := ⟨gO, lost.getD 1 0, none⟩) (fun e => HNF e.symm) _, B2.other (p := ⟨gO, lost.getD 1 0, none⟩) (fun e => HNS e.symm) _,
                    (World.cell?_setCell_other _ _ _ _ (by simp only [ne_eq, Addr.mk.injEq, not_and]; omega)).trans c0, (World.cell?_setCell_other _ _ _ _ (by simp only [ne_eq, Addr.mk.injEq, not_and]; omega)).trans c1⟩)
                have EX := And.intro (hE.1.setCell (p := ⟨gO, lost.getD 1 0, none⟩) hgO (.string (strN SS))) trivial
                generalize (strs (mendT L lost (strN FF) (strN SS) 1)).getD (lost.getD 1 0) undef = old at *
                generalize lost.getD 1 0 = p at *
                generalize hsX : strN SS = sx at hcv HM1 HB1 EX
                have hpI : (p : Int) < (n : Int) := by omega
                have hp0 : (0 : Int) ≤ (p : Int) := by omega
                have hTI : ((1 : Nat) : Int) < (nl : Int) := by omega
                clear HMO HB hmt HMT hsX B1 B2
                go_wp2
                go_region_law (fail)
                all_goals
                  go_wp2
                  go_roundw
                  case rel => exact ⟨2, by omega, rfl, hide ((unhide HM1).keep ((Ext.refl _).drew)), hide ⟨(unhide HB1).1.keep ((Ext.refl _).drew), (unhide HB1).2.1.keep ((Ext.refl _).drew), (unhide HB1).2.2.1, (unhide HB1).2.2.2⟩, EX.1.drew, trivial⟩
                  case measure => simp [intOf]
              · have hlT : ¬ 1 < lost.length := by have := unhide HLL; omega
                have HM1 : Hid (Made wr w.heap.size 9 1 (.slice (some ⟨gO, 0, none⟩) n cO) n (strs (mendT L lost (strN FF) (strN SS) 2))) := hide (by
                  show Made wr w.heap.size 9 1 (.slice (some ⟨gO, 0, none⟩) n cO) n (strs (if 1 < lost.length then _ else _))
                  rw [if_neg hlT]; exact unhide HMO)
                have hTI : ¬ ((1 : Nat) : Int) < (nl : Int) := by omega
                clear HMO B1 B2
                go_wp2
                go_roundw
                case rel => exact ⟨2, by omega, rfl, HM1, HB, (by repeat (first | exact hE.1 | refine Ext.alloc ?_ _ | refine Ext.drew ?_ | refine Ext.drewN ?_ _ | (refine Ext.trans ?_ (plus_ext _ _)) | (refine Ext.setCell ?_ (by have := Ext.size hE.1; simp; omega) _))), trivial⟩
                case measure => simp [intOf]

          · obtain rfl : t = 2 := by omega
            have hq := (unhide HMO).open_
            obtain ⟨A', c', e', R', -⟩ := hq
            injection e' with e1 e2 e3
            subst e1
            have HRF := hide R'
            have CCl := hide (clip_str (some ⟨gO, 0, none⟩) n cO wr hcO.1 hcO.2 (fun h => by cases h))
            clear HMO HB e2 e3 R'
            go_wp2_with fail
            refine (unhide CCl).mono ?_
            rintro e wx ⟨rfl, rfl⟩
            go_wp2
            go_ret2
            exact ⟨unhide HPOST _ _ (.inr ⟨unhide hbad, _, rfl, unhide HRF⟩), (by repeat (first | exact hE.1 | refine Ext.alloc ?_ _ | refine Ext.drew ?_ | refine Ext.drewN ?_ _ | (refine Ext.trans ?_ (plus_ext _ _)) | (refine Ext.setCell ?_ (by have := Ext.size hE.1; simp; omega) _)))⟩

end Go.Proofs.Ytkcmlcomonfoiaa
