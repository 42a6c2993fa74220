import Derived.Test.YtpenkbhljkmliaaGreatDoorDesk7
import Derived.Test.YtpenkbhljkmliaaGreatDoorDesk5
import Derived.Test.YtpenkbhljkmliaaGreatDoorDesk8
import Derived.Test.YtpenkbhljkmliaaGreatDoorDeskD
import Derived.Test.YtpenkbhljkmliaaGreatDoorSto3
import Derived.Maps.Own
import Derived.Maps.Keyed
import Derived.Test.YtpenkbhljkmliaaGreatDoorSto18
/-
  The store's commands at the desk: put, torn, rot, scrub, get.
-/
set_option linter.unusedVariables false
set_option linter.unusedSimpArgs false
namespace Go.Proofs.YtpenkbhljkmliaaGreatDoor
open Go.RowKit Go.BigFrame

abbrev PowIs (w : World) : Prop := Lib.TabIs Tryz.prog w "internal/strconv.uint64pow10" .u64 Lib.pow10Tab
theorem itoa_D (n : Int) (h0 : -9223372036854775808 ≤ n) (h1 : n ≤ 9223372036854775807) (w : World) (HT : PowIs w) :
    Calls Tryz.prog 18 #[.int .i64 n] w fun e w' => e = .returned (.string (itoaB n)) ∧ Ext w w' :=
  (Tryz.strconv_Itoa n h0 h1 w HT).mono (by
    rintro e w' ⟨rfl, q, os, rfl⟩
    exact ⟨rfl, below_grown w q os⟩)
theorem formGo_size (M : Nat) : ∀ (ws : List ByteArray) (f : List Bool) (ns : List Nat) (x : ByteArray) (r : List Nat × ByteArray), (∀ s ∈ ws, s.size ≤ M) → x.size ≤ M → formGo ws f ns x = .ok r → r.2.size ≤ M
  | [], [], ns, x, r, _, hx, h => by
    simp only [formGo, Except.ok.injEq] at h
    subst h; exact hx
  | [], _ :: _, ns, x, r, _, hx, h => by
    simp only [formGo, Except.ok.injEq] at h
    subst h; exact hx
  | _ :: _, [], ns, x, r, _, hx, h => by
    simp only [formGo, Except.ok.injEq] at h
    subst h; exact hx
  | w :: ws, true :: fs, ns, x, r, hw, hx, h => by
    simp only [formGo] at h
    exact formGo_size M ws fs ns w r (fun y hy => hw y (List.mem_cons_of_mem _ hy)) (hw w List.mem_cons_self) h
  | w :: ws, false :: fs, ns, x, r, hw, hx, h => by
    simp only [formGo] at h
    cases hn : numT w with
    | error e => rw [hn] at h; cases h
    | ok n =>
      rw [hn] at h
      exact formGo_size M ws fs _ x r (fun y hy => hw y (List.mem_cons_of_mem _ hy)) hx h
theorem formT_size {M : Nat} {ws : List ByteArray} {f : List Bool} {ns : List Nat} {x : ByteArray} (hw : ∀ s ∈ ws, s.size ≤ M) (h : formT ws f = .ok (ns, x)) : x.size ≤ M := by
  unfold formT at h
  split at h
  · cases h
  · exact formGo_size M ws f [] _ _ hw (by show 0 ≤ M; omega) h

/-! ### What a deed answers is small -/
section
variable {σ : Sto} {H : Nat → Nat × ByteArray}
theorem at_small (O : Sto.Ok σ H) (kind key n : Int) (s : ByteArray) (hk : kind = 1 ∨ kind = 2) (he : (σ.doS kind key n s).1.err = 0) : (σ.doS kind key n s).1.at_ ≤ 1000000 := by
  have h1 := Sto.put_told (σ := σ) kind key n s hk he
  have h2 := (O.do_ kind key n s).few
  omega
theorem get_small (O : Sto.Ok σ H) (key : Int) (s : ByteArray) (he : (σ.doS 3 key 0 s).1.err = 0) : (σ.doS 3 key 0 s).1.at_ ≤ 1000000 ∧ (σ.doS 3 key 0 s).1.text.size ≤ 60 := by
  obtain ⟨-, h1, h2, h3, -⟩ := Sto.get_told O key 0 s he
  have h4 := O.few
  refine ⟨by omega, ?_⟩
  have h5 := O.small _ h1 h2
  rwa [h3] at h5
theorem many_small (O : Sto.Ok σ H) (key n : Int) (s : ByteArray) : (σ.doS 8 key n s).1.many ≤ 10 := by
  unfold Sto.doS
  split
  · show 0 ≤ 10; omega
  · rw [if_neg (by decide), if_neg (by decide), if_neg (by decide), if_pos rfl]
    unfold Sto.scrubS
    split
    · show 0 ≤ 10; omega
    · show σ.readMany key.toNat ≤ 10
      have h1 := List.length_filter_le (σ.wrong key.toNat (σ.readAt key.toNat) (σ.readText key.toNat)) σ.ups
      have h2 := σ.ups_le
      have h3 := O.n10
      unfold Sto.readMany
      omega
end

/-- What a store's command answers: its text and yes, or the panic of its error. -/
def StoredPost (r : Except Int ByteArray) (e : Ending) : Prop := match r with
  | .ok b => e = .returned (.tuple #[.string b, .bool true])
  | .error er => e = thrown er
def StR (r : Except Int ByteArray × Sto) (q : Nat) (X : Nat → Prop) (w : World) (e : Ending) (w' : World) : Prop := StoredPost r.1 e ∧ Dk w' q r.2 X ∧ Kx X w w'
theorem do_yes {w : World} {q : Nat} {σ : Sto} {X : Nat → Prop} (D : Dk w q σ X) (Fi : Fine σ) (kind key n : Int) (s : ByteArray) (hss : (s.size : Int) ≤ 9223372036854775807) {an : Ans} {τ : Sto} (hd : σ.doS kind key n s = (an, τ)) (he : an.err = 0) :
    Calls Tryz.prog 29 #[.pointer (some ⟨q, 0, none⟩), .agg #[.int .i64 kind, .int .i64 key, .int .i64 n, .string s]] w fun e w' => e = .returned (.agg #[.string an.text, .int .i64 (an.at_ : Int), .int .i64 0, .int .i64 (an.many : Int)]) ∧ Dk w' q τ X ∧ Kx X w w' :=
  (do_desk D Fi kind key n s hss).mono fun e w' ⟨h1, h2⟩ => by
    rw [hd] at h1 h2
    unfold DoPost at h1
    rw [if_pos he] at h1
    exact ⟨h1, h2⟩
theorem do_no {w : World} {q : Nat} {σ : Sto} {X : Nat → Prop} (D : Dk w q σ X) (Fi : Fine σ) (kind key n : Int) (s : ByteArray) (hss : (s.size : Int) ≤ 9223372036854775807) {an : Ans} {τ : Sto} (hd : σ.doS kind key n s = (an, τ)) (he : an.err ≠ 0) :
    Calls Tryz.prog 29 #[.pointer (some ⟨q, 0, none⟩), .agg #[.int .i64 kind, .int .i64 key, .int .i64 n, .string s]] w fun e w' => e = thrown an.err ∧ Dk w' q τ X ∧ Kx X w w' :=
  (do_desk D Fi kind key n s hss).mono fun e w' ⟨h1, h2⟩ => by
    rw [hd] at h1 h2
    unfold DoPost at h1
    rw [if_neg he] at h1
    exact ⟨h1, h2⟩
theorem fld_at (s : ByteArray) (x y z : Int) (w : World) : (Instr.field 67 (.agg #[.string s, .int .i64 x, .int .i64 y, .int .i64 z]) 1).run Tryz.prog w = .ok (.agg #[.int .i64 x, .int .i64 y]) w := by kernel_rfl
theorem fld_many (s : ByteArray) (x y z : Int) (w : World) : (Instr.field 67 (.agg #[.string s, .int .i64 x, .int .i64 y, .int .i64 z]) 2).run Tryz.prog w = .ok (.int .i64 z) w := by kernel_rfl
theorem fld_n (x y : Int) (w : World) : (Instr.field 65 (.agg #[.int .i64 x, .int .i64 y]) 0).run Tryz.prog w = .ok (.int .i64 x) w := by kernel_rfl
theorem Kx.tail {X : Nat → Prop} {w w1 w2 w3 : World} (E1 : Ext w w1) (K : Kx X w1 w2) (E3 : Ext w2 w3) : Kx X w w3 := ((Kx.of_ext E1).trans K).trans (Kx.of_ext E3)

section
variable (A : Option Addr) (m c : Nat) (ws : List ByteArray) (w : World) (q : Nat) (σ : Sto) (X : Nat → Prop) (W0 : World)
set_option maxRecDepth 100000 in
set_option maxHeartbeats 2000000 in
theorem st_put (R : Row w A m 1 (strs ws)) (hm : m ≤ 9223372036854775807) (hws : ∀ s ∈ ws, s.size ≤ 4611686018427387904) (D : Dk w q σ X) (O : ∃ H, Sto.Ok σ H) (HT : PowIs W0) (E0 : Ext W0 w) (hX : ∀ x, x < W0.heap.size → X x) :
    Calls Tryz.prog 21 #[.pointer (some ⟨q, 0, none⟩), .string cPut, .slice A m c] w fun e w' => StR (withT σ (formT ws [false, true]) fun ns x => ansT (σ.doS 1 (ns.getD 0 0 : Nat) 0 x) (fun a => itoaB a.at_)) q X w e w' := by
  obtain ⟨H, OH⟩ := O
  have Fi := OH.fine
  have CF : Hid (Calls Tryz.prog 28 #[.slice A m c, .string ⟨#[110, 119]⟩] w fun e w' => FormPost (formT ws [false, true]) w e w' ∧ Ext w w') := hide (form_any A m c ws [false, true] w R hm (by decide))
  have HTX := hide (show ∀ W, Ext W0 W → PowIs W from fun W E => tab_ext HT E)
  have HKE := hide (show ∀ w1 w2, Ext w w1 → Kx X w1 w2 → Ext W0 w2 from fun w1 w2 E K => K.ext (E0.trans E) hX)
  have hfo := fun ns x h => formT_ok (ws := ws) (f := [false, true]) (ns := ns) (x := x) h
  have hfs := fun ns x h => formT_size (ws := ws) (f := [false, true]) (ns := ns) (x := x) hws h
  have HD := hide D
  clear D
  generalize formT ws [false, true] = r at *
  unfold cPut
  cases r with
  | error er =>
    clear hfo hfs
    go_enter Tryz.func21, Tryz.ntmps21
    go_wp2_with fail
    refine (unhide CF).mono ?_
    rintro e w1 ⟨rfl, E1⟩
    unfold thrown
    go_wp2
    exact ⟨rfl, (show StR (.error er, σ) q X w (thrown er) w1 from ⟨rfl, (unhide HD).keep E1, Kx.of_ext E1⟩)⟩
  | ok r =>
    obtain ⟨ns, x⟩ := r
    obtain ⟨-, hl, hs⟩ := hfo ns x rfl
    have hxs := hfs ns x rfl
    obtain ⟨a, rfl⟩ := one_of hl
    have hdo : ∃ an τ, σ.doS 1 (a : Int) 0 x = (an, τ) := ⟨_, _, rfl⟩
    obtain ⟨an, τ, hd⟩ := hdo
    have HG := hide (show withT σ (.ok ([a], x)) (fun ns x => ansT (σ.doS 1 (ns.getD 0 0 : Nat) 0 x) (fun a => itoaB a.at_)) = (if an.err = 0 then .ok ((fun a => itoaB a.at_) an) else .error an.err, τ) from by
      show ansT (σ.doS 1 (a : Int) 0 x) (fun a => itoaB a.at_) = _
      rw [hd]; rfl)
    rw [unhide HG]
    clear hfo hfs hl hs HG
    by_cases he : an.err = 0
    · rw [if_pos he]
      have CD := hide (fun W (D : Dk W q σ X) => do_yes D Fi 1 (a : Int) 0 x (by omega) hd he)
      have hat : an.at_ ≤ 1000000 := by
        have h := at_small OH 1 (a : Int) 0 x (by omega) (by rw [hd]; exact he)
        rwa [hd] at h
      have CI := hide (fun W (T : PowIs W) => itoa_D (an.at_ : Int) (by omega) (by omega) W T)
      obtain ⟨tx, tt, tm, er⟩ := an
      simp only at *
      have hf1 := fun w => fld_at tx (tt : Int) 0 (tm : Int) w
      have hf2 := fun w => fld_many tx (tt : Int) 0 (tm : Int) w
      have hf3 := fun w => fld_n (tt : Int) 0 w
      clear hd he OH Fi hxs
      go_enter Tryz.func21, Tryz.ntmps21
      go_wp2_with fail
      refine (unhide CF).mono ?_
      rintro e w1 ⟨⟨v0, rfl, HO⟩, E1⟩
      obtain ⟨g, cap, rfl, hg, hgl, hcap, -, hcell⟩ := row_open HO (by show 0 < 1; omega)
      have c0 : w1.cell? ⟨g, 0, none⟩ = some (.int .i64 (a : Int)) := (hcell 0 (by show 0 < 1 * 1; omega)).trans rfl
      have HD1 := hide ((unhide HD).keep E1)
      have HE1 := hide E1
      clear HO hcell E1
      go_wp2_with fail
      refine (unhide CD _ (unhide HD1)).mono ?_
      rintro e w2 ⟨rfl, D2, K2⟩
      have E2 := hide (unhide HKE _ _ (unhide HE1) K2)
      have HK2 := hide K2
      have HD2 := hide D2
      clear D2 K2
      go_wp2_with fail
      refine (unhide CI _ (unhide HTX _ (unhide E2))).mono ?_
      rintro e w3 ⟨rfl, E3⟩
      have HF := hide (show StR (.ok (itoaB (tt : Int)), τ) q X w (.returned (.tuple #[.string (itoaB (tt : Int)), .bool true])) w3 from ⟨rfl, (unhide HD2).keep E3, Kx.tail (unhide HE1) (unhide HK2) E3⟩)
      go_wp2
      go_ret2
      exact unhide HF
    · rw [if_neg he]
      have CD := hide (fun W (D : Dk W q σ X) => do_no D Fi 1 (a : Int) 0 x (by omega) hd he)
      obtain ⟨tx, tt, tm, er⟩ := an
      simp only at *
      have hf1 := fun w => fld_at tx (tt : Int) 0 (tm : Int) w
      have hf2 := fun w => fld_many tx (tt : Int) 0 (tm : Int) w
      have hf3 := fun w => fld_n (tt : Int) 0 w
      clear hd he OH Fi hxs
      go_enter Tryz.func21, Tryz.ntmps21
      go_wp2_with fail
      refine (unhide CF).mono ?_
      rintro e w1 ⟨⟨v0, rfl, HO⟩, E1⟩
      obtain ⟨g, cap, rfl, hg, hgl, hcap, -, hcell⟩ := row_open HO (by show 0 < 1; omega)
      have c0 : w1.cell? ⟨g, 0, none⟩ = some (.int .i64 (a : Int)) := (hcell 0 (by show 0 < 1 * 1; omega)).trans rfl
      have HD1 := hide ((unhide HD).keep E1)
      have HE1 := hide E1
      clear HO hcell E1
      go_wp2_with fail
      refine (unhide CD _ (unhide HD1)).mono ?_
      rintro e w2 ⟨rfl, D2, K2⟩
      have HF := hide (show StR (.error er, τ) q X w (thrown er) w2 from ⟨rfl, D2, (Kx.of_ext (unhide HE1)).trans K2⟩)
      unfold thrown
      go_wp2
      exact ⟨rfl, unhide HF⟩
set_option maxRecDepth 100000 in
set_option maxHeartbeats 2000000 in
theorem st_torn (R : Row w A m 1 (strs ws)) (hm : m ≤ 9223372036854775807) (hws : ∀ s ∈ ws, s.size ≤ 4611686018427387904) (D : Dk w q σ X) (O : ∃ H, Sto.Ok σ H) (HT : PowIs W0) (E0 : Ext W0 w) (hX : ∀ x, x < W0.heap.size → X x) :
    Calls Tryz.prog 21 #[.pointer (some ⟨q, 0, none⟩), .string cTorn, .slice A m c] w fun e w' => StR (withT σ (formT ws [false, false, true]) fun ns x => ansT (σ.doS 2 (ns.getD 0 0 : Nat) (ns.getD 1 0 : Nat) x) (fun a => itoaB a.at_)) q X w e w' := by
  obtain ⟨H, OH⟩ := O
  have Fi := OH.fine
  have CF : Hid (Calls Tryz.prog 28 #[.slice A m c, .string ⟨#[110, 110, 119]⟩] w fun e w' => FormPost (formT ws [false, false, true]) w e w' ∧ Ext w w') := hide (form_any A m c ws [false, false, true] w R hm (by decide))
  have HTX := hide (show ∀ W, Ext W0 W → PowIs W from fun W E => tab_ext HT E)
  have HKE := hide (show ∀ w1 w2, Ext w w1 → Kx X w1 w2 → Ext W0 w2 from fun w1 w2 E K => K.ext (E0.trans E) hX)
  have hfo := fun ns x h => formT_ok (ws := ws) (f := [false, false, true]) (ns := ns) (x := x) h
  have hfs := fun ns x h => formT_size (ws := ws) (f := [false, false, true]) (ns := ns) (x := x) hws h
  have HD := hide D
  clear D
  generalize formT ws [false, false, true] = r at *
  unfold cTorn
  cases r with
  | error er =>
    clear hfo hfs
    go_enter Tryz.func21, Tryz.ntmps21
    go_wp2_with fail
    refine (unhide CF).mono ?_
    rintro e w1 ⟨rfl, E1⟩
    unfold thrown
    go_wp2
    exact ⟨rfl, (show StR (.error er, σ) q X w (thrown er) w1 from ⟨rfl, (unhide HD).keep E1, Kx.of_ext E1⟩)⟩
  | ok r =>
    obtain ⟨ns, x⟩ := r
    obtain ⟨-, hl, hs⟩ := hfo ns x rfl
    have hxs := hfs ns x rfl
    obtain ⟨a, b, rfl⟩ := two_of hl
    have hdo : ∃ an τ, σ.doS 2 (a : Int) (b : Int) x = (an, τ) := ⟨_, _, rfl⟩
    obtain ⟨an, τ, hd⟩ := hdo
    have HG := hide (show withT σ (.ok ([a, b], x)) (fun ns x => ansT (σ.doS 2 (ns.getD 0 0 : Nat) (ns.getD 1 0 : Nat) x) (fun a => itoaB a.at_)) = (if an.err = 0 then .ok ((fun a => itoaB a.at_) an) else .error an.err, τ) from by
      show ansT (σ.doS 2 (a : Int) (b : Int) x) (fun a => itoaB a.at_) = _
      rw [hd]; rfl)
    rw [unhide HG]
    clear hfo hfs hl hs HG
    by_cases he : an.err = 0
    · rw [if_pos he]
      have CD := hide (fun W (D : Dk W q σ X) => do_yes D Fi 2 (a : Int) (b : Int) x (by omega) hd he)
      have hat : an.at_ ≤ 1000000 := by
        have h := at_small OH 2 (a : Int) (b : Int) x (by omega) (by rw [hd]; exact he)
        rwa [hd] at h
      have CI := hide (fun W (T : PowIs W) => itoa_D (an.at_ : Int) (by omega) (by omega) W T)
      obtain ⟨tx, tt, tm, er⟩ := an
      simp only at *
      have hf1 := fun w => fld_at tx (tt : Int) 0 (tm : Int) w
      have hf2 := fun w => fld_many tx (tt : Int) 0 (tm : Int) w
      have hf3 := fun w => fld_n (tt : Int) 0 w
      clear hd he OH Fi hxs
      go_enter Tryz.func21, Tryz.ntmps21
      go_wp2_with fail
      refine (unhide CF).mono ?_
      rintro e w1 ⟨⟨v0, rfl, HO⟩, E1⟩
      obtain ⟨g, cap, rfl, hg, hgl, hcap, -, hcell⟩ := row_open HO (by show 0 < 2; omega)
      have c0 : w1.cell? ⟨g, 0, none⟩ = some (.int .i64 (a : Int)) := (hcell 0 (by show 0 < 2 * 1; omega)).trans rfl
      have c1 : w1.cell? ⟨g, 1, none⟩ = some (.int .i64 (b : Int)) := (hcell 1 (by show 1 < 2 * 1; omega)).trans rfl
      have HD1 := hide ((unhide HD).keep E1)
      have HE1 := hide E1
      clear HO hcell E1
      go_wp2_with fail
      refine wp_region_tail 9 (fun w w' => w' = w) (fun w => rfl) (fun _ _ d _ _ h => by cases d <;> exact h) (by kernel_rfl) (by kernel_rfl) ?_
      show wpQuiet _ _ _ _ (_ :: _ :: _ :: _ :: _ :: _ :: _ :: _ :: _ :: []) _
      repeat (go_big_quiet_step ((fail)))
      refine wpQuiet_nil ?_
      rintro wq rfl
      show wpList _ _ _ (_ :: _ :: _ :: _ :: _ :: _ :: []) _ _
      go_wp2_with fail
      refine (unhide CD _ ((unhide HD1).keep (Ext.refl _).drew)).mono ?_
      rintro e w2 ⟨rfl, D2, K2'⟩
      have K2 : Kx X w1 w2 := (Kx.of_ext (Ext.refl _).drew).trans K2'
      have E2 := hide (unhide HKE _ _ (unhide HE1) K2)
      have HK2 := hide K2
      have HD2 := hide D2
      clear D2 K2
      go_wp2_with fail
      refine (unhide CI _ (unhide HTX _ (unhide E2))).mono ?_
      rintro e w3 ⟨rfl, E3⟩
      have HF := hide (show StR (.ok (itoaB (tt : Int)), τ) q X w (.returned (.tuple #[.string (itoaB (tt : Int)), .bool true])) w3 from ⟨rfl, (unhide HD2).keep E3, Kx.tail (unhide HE1) (unhide HK2) E3⟩)
      go_wp2
      go_ret2
      exact unhide HF
    · rw [if_neg he]
      have CD := hide (fun W (D : Dk W q σ X) => do_no D Fi 2 (a : Int) (b : Int) x (by omega) hd he)
      obtain ⟨tx, tt, tm, er⟩ := an
      simp only at *
      have hf1 := fun w => fld_at tx (tt : Int) 0 (tm : Int) w
      have hf2 := fun w => fld_many tx (tt : Int) 0 (tm : Int) w
      have hf3 := fun w => fld_n (tt : Int) 0 w
      clear hd he OH Fi hxs
      go_enter Tryz.func21, Tryz.ntmps21
      go_wp2_with fail
      refine (unhide CF).mono ?_
      rintro e w1 ⟨⟨v0, rfl, HO⟩, E1⟩
      obtain ⟨g, cap, rfl, hg, hgl, hcap, -, hcell⟩ := row_open HO (by show 0 < 2; omega)
      have c0 : w1.cell? ⟨g, 0, none⟩ = some (.int .i64 (a : Int)) := (hcell 0 (by show 0 < 2 * 1; omega)).trans rfl
      have c1 : w1.cell? ⟨g, 1, none⟩ = some (.int .i64 (b : Int)) := (hcell 1 (by show 1 < 2 * 1; omega)).trans rfl
      have HD1 := hide ((unhide HD).keep E1)
      have HE1 := hide E1
      clear HO hcell E1
      go_wp2_with fail
      refine wp_region_tail 9 (fun w w' => w' = w) (fun w => rfl) (fun _ _ d _ _ h => by cases d <;> exact h) (by kernel_rfl) (by kernel_rfl) ?_
      show wpQuiet _ _ _ _ (_ :: _ :: _ :: _ :: _ :: _ :: _ :: _ :: _ :: []) _
      repeat (go_big_quiet_step ((fail)))
      refine wpQuiet_nil ?_
      rintro wq rfl
      show wpList _ _ _ (_ :: _ :: _ :: _ :: _ :: _ :: []) _ _
      go_wp2_with fail
      refine (unhide CD _ ((unhide HD1).keep (Ext.refl _).drew)).mono ?_
      rintro e w2 ⟨rfl, D2, K2'⟩
      have K2 : Kx X w1 w2 := (Kx.of_ext (Ext.refl _).drew).trans K2'
      have HF := hide (show StR (.error er, τ) q X w (thrown er) w2 from ⟨rfl, D2, (Kx.of_ext (unhide HE1)).trans K2⟩)
      unfold thrown
      go_wp2
      exact ⟨rfl, unhide HF⟩
set_option maxRecDepth 100000 in
set_option maxHeartbeats 2000000 in
theorem st_scrub (R : Row w A m 1 (strs ws)) (hm : m ≤ 9223372036854775807) (hws : ∀ s ∈ ws, s.size ≤ 4611686018427387904) (D : Dk w q σ X) (O : ∃ H, Sto.Ok σ H) (HT : PowIs W0) (E0 : Ext W0 w) (hX : ∀ x, x < W0.heap.size → X x) :
    Calls Tryz.prog 21 #[.pointer (some ⟨q, 0, none⟩), .string cScrub, .slice A m c] w fun e w' => StR (withT σ (formT ws [false]) fun ns x => ansT (σ.doS 8 (ns.getD 0 0 : Nat) 0 ByteArray.empty) (fun a => itoaB a.many)) q X w e w' := by
  obtain ⟨H, OH⟩ := O
  have Fi := OH.fine
  have CF : Hid (Calls Tryz.prog 28 #[.slice A m c, .string ⟨#[110]⟩] w fun e w' => FormPost (formT ws [false]) w e w' ∧ Ext w w') := hide (form_any A m c ws [false] w R hm (by decide))
  have HTX := hide (show ∀ W, Ext W0 W → PowIs W from fun W E => tab_ext HT E)
  have HKE := hide (show ∀ w1 w2, Ext w w1 → Kx X w1 w2 → Ext W0 w2 from fun w1 w2 E K => K.ext (E0.trans E) hX)
  have hfo := fun ns x h => formT_ok (ws := ws) (f := [false]) (ns := ns) (x := x) h
  have hfs := fun ns x h => formT_size (ws := ws) (f := [false]) (ns := ns) (x := x) hws h
  have HD := hide D
  clear D
  generalize formT ws [false] = r at *
  unfold cScrub
  cases r with
  | error er =>
    clear hfo hfs
    go_enter Tryz.func21, Tryz.ntmps21
    go_wp2_with fail
    refine (unhide CF).mono ?_
    rintro e w1 ⟨rfl, E1⟩
    unfold thrown
    go_wp2
    exact ⟨rfl, (show StR (.error er, σ) q X w (thrown er) w1 from ⟨rfl, (unhide HD).keep E1, Kx.of_ext E1⟩)⟩
  | ok r =>
    obtain ⟨ns, x⟩ := r
    obtain ⟨-, hl, hs⟩ := hfo ns x rfl
    have hxs := hfs ns x rfl
    obtain ⟨a, rfl⟩ := one_of hl
    have hdo : ∃ an τ, σ.doS 8 (a : Int) 0 ByteArray.empty = (an, τ) := ⟨_, _, rfl⟩
    obtain ⟨an, τ, hd⟩ := hdo
    have HG := hide (show withT σ (.ok ([a], x)) (fun ns x => ansT (σ.doS 8 (ns.getD 0 0 : Nat) 0 ByteArray.empty) (fun a => itoaB a.many)) = (if an.err = 0 then .ok ((fun a => itoaB a.many) an) else .error an.err, τ) from by
      show ansT (σ.doS 8 (a : Int) 0 ByteArray.empty) (fun a => itoaB a.many) = _
      rw [hd]; rfl)
    rw [unhide HG]
    clear hfo hfs hl hs HG
    by_cases he : an.err = 0
    · rw [if_pos he]
      have CD := hide (fun W (D : Dk W q σ X) => do_yes D Fi 8 (a : Int) 0 ByteArray.empty (by decide) hd he)
      have hmy : an.many ≤ 10 := by
        have h := many_small OH (a : Int) 0 ByteArray.empty
        rwa [hd] at h
      have CI := hide (fun W (T : PowIs W) => itoa_D (an.many : Int) (by omega) (by omega) W T)
      obtain ⟨tx, tt, tm, er⟩ := an
      simp only at *
      have hf1 := fun w => fld_at tx (tt : Int) 0 (tm : Int) w
      have hf2 := fun w => fld_many tx (tt : Int) 0 (tm : Int) w
      have hf3 := fun w => fld_n (tt : Int) 0 w
      clear hd he OH Fi hxs
      go_enter Tryz.func21, Tryz.ntmps21
      go_wp2_with fail
      refine (unhide CF).mono ?_
      rintro e w1 ⟨⟨v0, rfl, HO⟩, E1⟩
      obtain ⟨g, cap, rfl, hg, hgl, hcap, -, hcell⟩ := row_open HO (by show 0 < 1; omega)
      have c0 : w1.cell? ⟨g, 0, none⟩ = some (.int .i64 (a : Int)) := (hcell 0 (by show 0 < 1 * 1; omega)).trans rfl
      have HD1 := hide ((unhide HD).keep E1)
      have HE1 := hide E1
      clear HO hcell E1
      go_wp2_with fail
      refine (unhide CD _ (unhide HD1)).mono ?_
      rintro e w2 ⟨rfl, D2, K2⟩
      have E2 := hide (unhide HKE _ _ (unhide HE1) K2)
      have HK2 := hide K2
      have HD2 := hide D2
      clear D2 K2
      go_wp2_with fail
      refine (unhide CI _ (unhide HTX _ (unhide E2))).mono ?_
      rintro e w3 ⟨rfl, E3⟩
      have HF := hide (show StR (.ok (itoaB (tm : Int)), τ) q X w (.returned (.tuple #[.string (itoaB (tm : Int)), .bool true])) w3 from ⟨rfl, (unhide HD2).keep E3, Kx.tail (unhide HE1) (unhide HK2) E3⟩)
      go_wp2
      go_ret2
      exact unhide HF
    · rw [if_neg he]
      have CD := hide (fun W (D : Dk W q σ X) => do_no D Fi 8 (a : Int) 0 ByteArray.empty (by decide) hd he)
      obtain ⟨tx, tt, tm, er⟩ := an
      simp only at *
      have hf1 := fun w => fld_at tx (tt : Int) 0 (tm : Int) w
      have hf2 := fun w => fld_many tx (tt : Int) 0 (tm : Int) w
      have hf3 := fun w => fld_n (tt : Int) 0 w
      clear hd he OH Fi hxs
      go_enter Tryz.func21, Tryz.ntmps21
      go_wp2_with fail
      refine (unhide CF).mono ?_
      rintro e w1 ⟨⟨v0, rfl, HO⟩, E1⟩
      obtain ⟨g, cap, rfl, hg, hgl, hcap, -, hcell⟩ := row_open HO (by show 0 < 1; omega)
      have c0 : w1.cell? ⟨g, 0, none⟩ = some (.int .i64 (a : Int)) := (hcell 0 (by show 0 < 1 * 1; omega)).trans rfl
      have HD1 := hide ((unhide HD).keep E1)
      have HE1 := hide E1
      clear HO hcell E1
      go_wp2_with fail
      refine (unhide CD _ (unhide HD1)).mono ?_
      rintro e w2 ⟨rfl, D2, K2⟩
      have HF := hide (show StR (.error er, τ) q X w (thrown er) w2 from ⟨rfl, D2, (Kx.of_ext (unhide HE1)).trans K2⟩)
      unfold thrown
      go_wp2
      exact ⟨rfl, unhide HF⟩
set_option maxRecDepth 100000 in
set_option maxHeartbeats 2000000 in
theorem st_rot (R : Row w A m 1 (strs ws)) (hm : m ≤ 9223372036854775807) (hws : ∀ s ∈ ws, s.size ≤ 4611686018427387904) (D : Dk w q σ X) (O : ∃ H, Sto.Ok σ H) (HT : PowIs W0) (E0 : Ext W0 w) (hX : ∀ x, x < W0.heap.size → X x) :
    Calls Tryz.prog 21 #[.pointer (some ⟨q, 0, none⟩), .string cRot, .slice A m c] w fun e w' => StR (withT σ (formT ws [false, false]) fun ns x => ansT (σ.doS 7 (ns.getD 1 0 : Nat) (ns.getD 0 0 : Nat) ByteArray.empty) (fun _ => okB_)) q X w e w' := by
  obtain ⟨H, OH⟩ := O
  have Fi := OH.fine
  have CF : Hid (Calls Tryz.prog 28 #[.slice A m c, .string ⟨#[110, 110]⟩] w fun e w' => FormPost (formT ws [false, false]) w e w' ∧ Ext w w') := hide (form_any A m c ws [false, false] w R hm (by decide))
  have HTX := hide (show ∀ W, Ext W0 W → PowIs W from fun W E => tab_ext HT E)
  have HKE := hide (show ∀ w1 w2, Ext w w1 → Kx X w1 w2 → Ext W0 w2 from fun w1 w2 E K => K.ext (E0.trans E) hX)
  have hfo := fun ns x h => formT_ok (ws := ws) (f := [false, false]) (ns := ns) (x := x) h
  have hfs := fun ns x h => formT_size (ws := ws) (f := [false, false]) (ns := ns) (x := x) hws h
  have HD := hide D
  clear D
  generalize formT ws [false, false] = r at *
  unfold cRot
  cases r with
  | error er =>
    clear hfo hfs
    go_enter Tryz.func21, Tryz.ntmps21
    go_wp2_with fail
    refine (unhide CF).mono ?_
    rintro e w1 ⟨rfl, E1⟩
    unfold thrown
    go_wp2
    exact ⟨rfl, (show StR (.error er, σ) q X w (thrown er) w1 from ⟨rfl, (unhide HD).keep E1, Kx.of_ext E1⟩)⟩
  | ok r =>
    obtain ⟨ns, x⟩ := r
    obtain ⟨-, hl, hs⟩ := hfo ns x rfl
    have hxs := hfs ns x rfl
    obtain ⟨a, b, rfl⟩ := two_of hl
    have hdo : ∃ an τ, σ.doS 7 (b : Int) (a : Int) ByteArray.empty = (an, τ) := ⟨_, _, rfl⟩
    obtain ⟨an, τ, hd⟩ := hdo
    have HG := hide (show withT σ (.ok ([a, b], x)) (fun ns x => ansT (σ.doS 7 (ns.getD 1 0 : Nat) (ns.getD 0 0 : Nat) ByteArray.empty) (fun _ => okB_)) = (if an.err = 0 then .ok ((fun _ => okB_) an) else .error an.err, τ) from by
      show ansT (σ.doS 7 (b : Int) (a : Int) ByteArray.empty) (fun _ => okB_) = _
      rw [hd]; rfl)
    rw [unhide HG]
    clear hfo hfs hl hs HG
    by_cases he : an.err = 0
    · rw [if_pos he]
      have CD := hide (fun W (D : Dk W q σ X) => do_yes D Fi 7 (b : Int) (a : Int) ByteArray.empty (by decide) hd he)
      obtain ⟨tx, tt, tm, er⟩ := an
      simp only at *
      have hf1 := fun w => fld_at tx (tt : Int) 0 (tm : Int) w
      have hf2 := fun w => fld_many tx (tt : Int) 0 (tm : Int) w
      have hf3 := fun w => fld_n (tt : Int) 0 w
      clear hd he OH Fi hxs
      go_enter Tryz.func21, Tryz.ntmps21
      go_wp2_with fail
      refine (unhide CF).mono ?_
      rintro e w1 ⟨⟨v0, rfl, HO⟩, E1⟩
      obtain ⟨g, cap, rfl, hg, hgl, hcap, -, hcell⟩ := row_open HO (by show 0 < 2; omega)
      have c0 : w1.cell? ⟨g, 0, none⟩ = some (.int .i64 (a : Int)) := (hcell 0 (by show 0 < 2 * 1; omega)).trans rfl
      have c1 : w1.cell? ⟨g, 1, none⟩ = some (.int .i64 (b : Int)) := (hcell 1 (by show 1 < 2 * 1; omega)).trans rfl
      have HD1 := hide ((unhide HD).keep E1)
      have HE1 := hide E1
      clear HO hcell E1
      go_wp2_with fail
      refine wp_region_tail 8 (fun w w' => w' = w) (fun w => rfl) (fun _ _ d _ _ h => by cases d <;> exact h) (by kernel_rfl) (by kernel_rfl) ?_
      show wpQuiet _ _ _ _ (_ :: _ :: _ :: _ :: _ :: _ :: _ :: _ :: []) _
      repeat (go_big_quiet_step ((fail)))
      refine wpQuiet_nil ?_
      rintro wq rfl
      show wpList _ _ _ (_ :: []) _ _
      go_wp2_with fail
      refine (unhide CD _ ((unhide HD1).keep (Ext.refl _).drew)).mono ?_
      rintro e w2 ⟨rfl, D2, K2'⟩
      have K2 : Kx X w1 w2 := (Kx.of_ext (Ext.refl _).drew).trans K2'
      have HF := hide (show StR (.ok okB_, τ) q X w (.returned (.tuple #[.string okB_, .bool true])) w2 from ⟨rfl, D2, (Kx.of_ext (unhide HE1)).trans K2⟩)
      go_wp2
      go_ret2
      exact unhide HF
    · rw [if_neg he]
      have CD := hide (fun W (D : Dk W q σ X) => do_no D Fi 7 (b : Int) (a : Int) ByteArray.empty (by decide) hd he)
      obtain ⟨tx, tt, tm, er⟩ := an
      simp only at *
      have hf1 := fun w => fld_at tx (tt : Int) 0 (tm : Int) w
      have hf2 := fun w => fld_many tx (tt : Int) 0 (tm : Int) w
      have hf3 := fun w => fld_n (tt : Int) 0 w
      clear hd he OH Fi hxs
      go_enter Tryz.func21, Tryz.ntmps21
      go_wp2_with fail
      refine (unhide CF).mono ?_
      rintro e w1 ⟨⟨v0, rfl, HO⟩, E1⟩
      obtain ⟨g, cap, rfl, hg, hgl, hcap, -, hcell⟩ := row_open HO (by show 0 < 2; omega)
      have c0 : w1.cell? ⟨g, 0, none⟩ = some (.int .i64 (a : Int)) := (hcell 0 (by show 0 < 2 * 1; omega)).trans rfl
      have c1 : w1.cell? ⟨g, 1, none⟩ = some (.int .i64 (b : Int)) := (hcell 1 (by show 1 < 2 * 1; omega)).trans rfl
      have HD1 := hide ((unhide HD).keep E1)
      have HE1 := hide E1
      clear HO hcell E1
      go_wp2_with fail
      refine wp_region_tail 8 (fun w w' => w' = w) (fun w => rfl) (fun _ _ d _ _ h => by cases d <;> exact h) (by kernel_rfl) (by kernel_rfl) ?_
      show wpQuiet _ _ _ _ (_ :: _ :: _ :: _ :: _ :: _ :: _ :: _ :: []) _
      repeat (go_big_quiet_step ((fail)))
      refine wpQuiet_nil ?_
      rintro wq rfl
      show wpList _ _ _ (_ :: []) _ _
      go_wp2_with fail
      refine (unhide CD _ ((unhide HD1).keep (Ext.refl _).drew)).mono ?_
      rintro e w2 ⟨rfl, D2, K2'⟩
      have K2 : Kx X w1 w2 := (Kx.of_ext (Ext.refl _).drew).trans K2'
      have HF := hide (show StR (.error er, τ) q X w (thrown er) w2 from ⟨rfl, D2, (Kx.of_ext (unhide HE1)).trans K2⟩)
      unfold thrown
      go_wp2
      exact ⟨rfl, unhide HF⟩
end
end Go.Proofs.YtpenkbhljkmliaaGreatDoor

/-
  The store's commands at the desk: get, down, up, lose.
-/
set_option linter.unusedVariables false
set_option linter.unusedSimpArgs false
namespace Go.Proofs.YtpenkbhljkmliaaGreatDoor
open Go.RowKit Go.BigFrame Go.Maps

/-- The table of the three kinds: made, filled, looked up. -/
def sDown : ByteArray := ⟨#[100, 111, 119, 110]⟩
def sUp : ByteArray := ⟨#[117, 112]⟩
def sLose : ByteArray := ⟨#[108, 111, 115, 101]⟩
def kindsD : DataW Unit := (((DataW.map []).put (.string [100, 111, 119, 110]) (.lit (.int .i64 4))).put (.string [117, 112]) (.lit (.int .i64 5))).put (.string [108, 111, 115, 101]) (.lit (.int .i64 6))
theorem zero_int_ (w : World) : (zeroValue 3).run Tryz.prog w = .ok (.int .i64 0) w := by kernel_rfl
set_option maxRecDepth 100000 in
theorem kinds_look (w : World) (cmd : ByteArray) (l : List UInt8) (k : Int) (hkey : keyOf Tryz.prog 9 (.string cmd) = some (.string l)) (hat : kindsD.atKey (.string l) (.lit (.int .i64 0)) = .lit (.int .i64 k)) :
    ∃ wa wb wc, (Instr.mapUpdate 71 (.map (some w.heap.size)) (.string ⟨#[100, 111, 119, 110]⟩) (.int .i64 4)).run Tryz.prog (w.alloc (.map #[] 0)) = .ok () wa ∧
      (Instr.mapUpdate 71 (.map (some w.heap.size)) (.string ⟨#[117, 112]⟩) (.int .i64 5)).run Tryz.prog wa = .ok () wb ∧
      (Instr.mapUpdate 71 (.map (some w.heap.size)) (.string ⟨#[108, 111, 115, 101]⟩) (.int .i64 6)).run Tryz.prog wb = .ok () wc ∧
      (Instr.lookup 71 (.map (some w.heap.size)) (.string cmd) false).run Tryz.prog wc = .ok (.int .i64 k) wc ∧ Ext w wc := by
  have K := string_keyed Tryz.underlying9
  have ht := Tryz.underlying71
  have he := Tryz.underlying3
  have wf : ∀ n : Int, 0 ≤ n → n ≤ 9 → (Lit.int .i64 n).wf = true := fun n h1 h2 => by
    rcases (show n = 0 ∨ n = 1 ∨ n = 2 ∨ n = 3 ∨ n = 4 ∨ n = 5 ∨ n = 6 ∨ n = 7 ∨ n = 8 ∨ n = 9 by omega) with rfl | rfl | rfl | rfl | rfl | rfl | rfl | rfl | rfl | rfl <;> decide
  have M0 := World.ownsMap_made (H := Unit) w Tryz.prog 9 (plainElem Tryz.prog 3)
  obtain ⟨wa, ra, Ma, ga⟩ := M0.update K ht (by unfold maxLen; omega) (key := .string ⟨#[100, 111, 119, 110]⟩) (val := .int .i64 4) (kl := .string [100, 111, 119, 110]) (by kernel_rfl) (plainElem_int he (wf 4 (by omega) (by omega)))
  obtain ⟨wb, rb, Mb, gb⟩ := Ma.update K ht (by unfold maxLen; omega) (key := .string ⟨#[117, 112]⟩) (val := .int .i64 5) (kl := .string [117, 112]) (by kernel_rfl) (plainElem_int he (wf 5 (by omega) (by omega)))
  obtain ⟨wc, rc, Mc, gc⟩ := Mb.update K ht (by unfold maxLen; omega) (key := .string ⟨#[108, 111, 115, 101]⟩) (val := .int .i64 6) (kl := .string [108, 111, 115, 101]) (by kernel_rfl) (plainElem_int he (wf 6 (by omega) (by omega)))
  obtain ⟨c, rl, hc, -⟩ := Mc.lookup_int K ht he (zero_int_ wc) hkey
  have hk : c = k := by
    have h : kindsD.atKey (.string l) (.lit (.int .i64 0)) = .lit (.int .i64 c) := hc
    rw [hat] at h
    injection h with h
    injection h with _ h
    exact h.symm
  subst hk
  have hs : (some w.heap.size = some w.heap.size → w.heap.size ≤ w.heap.size) := fun _ => Nat.le_refl _
  refine ⟨wa, wb, wc, ra, rb, rc, rl, ?_⟩
  have E0 := (Ext.refl w).alloc (.map #[] 0)
  have Ea := E0.grown ga (fun k h => by injection h with h; omega)
  have Eb := Ea.grown gb (fun k h => by injection h with h; omega)
  exact Eb.grown gc (fun k h => by injection h with h; omega)

section
variable (A : Option Addr) (m c : Nat) (ws : List ByteArray) (w : World) (q : Nat) (σ : Sto) (X : Nat → Prop) (W0 : World)
set_option maxRecDepth 100000 in
set_option maxHeartbeats 2000000 in
theorem st_get (R : Row w A m 1 (strs ws)) (hm : m ≤ 9223372036854775807) (hws : ∀ s ∈ ws, s.size ≤ 4611686018427387904) (D : Dk w q σ X) (O : ∃ H, Sto.Ok σ H) (HT : PowIs W0) (E0 : Ext W0 w) (hX : ∀ x, x < W0.heap.size → X x) :
    Calls Tryz.prog 21 #[.pointer (some ⟨q, 0, none⟩), .string cGet, .slice A m c] w fun e w' => StR (withT σ (formT ws [false]) fun ns x => ansT (σ.doS 3 (ns.getD 0 0 : Nat) 0 ByteArray.empty) (fun a => itoaB a.at_ ++ blank ++ a.text)) q X w e w' := by
  obtain ⟨H, OH⟩ := O
  have Fi := OH.fine
  have CF : Hid (Calls Tryz.prog 28 #[.slice A m c, .string ⟨#[110]⟩] w fun e w' => FormPost (formT ws [false]) w e w' ∧ Ext w w') := hide (form_any A m c ws [false] w R hm (by decide))
  have HTX := hide (show ∀ W, Ext W0 W → PowIs W from fun W E => tab_ext HT E)
  have HKE := hide (show ∀ w1 w2, Ext w w1 → Kx X w1 w2 → Ext W0 w2 from fun w1 w2 E K => K.ext (E0.trans E) hX)
  have hfo := fun ns x h => formT_ok (ws := ws) (f := [false]) (ns := ns) (x := x) h
  have hfs := fun ns x h => formT_size (ws := ws) (f := [false]) (ns := ns) (x := x) hws h
  have HD := hide D
  clear D
  generalize formT ws [false] = r at *
  unfold cGet
  cases r with
  | error er =>
    clear hfo hfs
    go_enter Tryz.func21, Tryz.ntmps21
    go_wp2_with fail
    refine (unhide CF).mono ?_
    rintro e w1 ⟨rfl, E1⟩
    unfold thrown
    go_wp2
    exact ⟨rfl, (show StR (.error er, σ) q X w (thrown er) w1 from ⟨rfl, (unhide HD).keep E1, Kx.of_ext E1⟩)⟩
  | ok r =>
    obtain ⟨ns, x⟩ := r
    obtain ⟨-, hl, hs⟩ := hfo ns x rfl
    have hxs := hfs ns x rfl
    obtain ⟨a, rfl⟩ := one_of hl
    have hdo : ∃ an τ, σ.doS 3 (a : Int) 0 ByteArray.empty = (an, τ) := ⟨_, _, rfl⟩
    obtain ⟨an, τ, hd⟩ := hdo
    have HG := hide (show withT σ (.ok ([a], x)) (fun ns x => ansT (σ.doS 3 (ns.getD 0 0 : Nat) 0 ByteArray.empty) (fun a => itoaB a.at_ ++ blank ++ a.text)) = (if an.err = 0 then .ok ((fun a => itoaB a.at_ ++ blank ++ a.text) an) else .error an.err, τ) from by
      show ansT (σ.doS 3 (a : Int) 0 ByteArray.empty) (fun a => itoaB a.at_ ++ blank ++ a.text) = _
      rw [hd]; rfl)
    rw [unhide HG]
    clear hfo hfs hl hs HG
    by_cases he : an.err = 0
    · rw [if_pos he]
      have CD := hide (fun W (D : Dk W q σ X) => do_yes D Fi 3 (a : Int) 0 ByteArray.empty (by decide) hd he)
      have hgs : an.at_ ≤ 1000000 ∧ an.text.size ≤ 60 := by
        have h := get_small OH (a : Int) ByteArray.empty (by rw [hd]; exact he)
        rwa [hd] at h
      obtain ⟨hat, htx⟩ := hgs
      have CI := hide (fun W (T : PowIs W) => itoa_D (an.at_ : Int) (by omega) (by omega) W T)
      have hi : (itoaB (an.at_ : Int)).size ≤ 20 := by
        have := Wm.itoa_len (n := (an.at_ : Int)) (by omega) (by omega)
        unfold itoaB
        show (List.toArray _).size ≤ 20
        simpa using this
      obtain ⟨tx, tt, tm, er⟩ := an
      simp only at *
      have hf1 := fun w => fld_at tx (tt : Int) 0 (tm : Int) w
      have hf2 := fun w => fld_many tx (tt : Int) 0 (tm : Int) w
      have hf3 := fun w => fld_n (tt : Int) 0 w
      clear hd he OH Fi hxs
      go_enter Tryz.func21, Tryz.ntmps21
      go_wp2_with fail
      refine (unhide CF).mono ?_
      rintro e w1 ⟨⟨v0, rfl, HO⟩, E1⟩
      obtain ⟨g, cap, rfl, hg, hgl, hcap, -, hcell⟩ := row_open HO (by show 0 < 1; omega)
      have c0 : w1.cell? ⟨g, 0, none⟩ = some (.int .i64 (a : Int)) := (hcell 0 (by show 0 < 1 * 1; omega)).trans rfl
      have HD1 := hide ((unhide HD).keep E1)
      have HE1 := hide E1
      clear HO hcell E1
      go_wp2_with fail
      refine (unhide CD _ (unhide HD1)).mono ?_
      rintro e w2 ⟨rfl, D2, K2⟩
      have E2 := hide (unhide HKE _ _ (unhide HE1) K2)
      have HK2 := hide K2
      have HD2 := hide D2
      clear D2 K2
      go_upto_region 11 with fail
      obtain ⟨W4, hW4⟩ : ∃ W4, W4 = w2.alloc (.cells #[.string tx, .int .i64 (tt : Int), .int .i64 0, .int .i64 (tm : Int)] 67) := ⟨_, rfl⟩
      rw [← hW4]
      have d0 := plus_keep (show W4.cell? ⟨w2.heap.size, 0, none⟩ = some (.string tx) from by rw [hW4]; exact new_cell _ _ _ _)
      have d1 := plus_keep (show W4.cell? ⟨w2.heap.size, 1, none⟩ = some (.int .i64 (tt : Int)) from by rw [hW4]; exact new_cell _ _ _ _)
      have E24 := hide (show Ext w2 W4 from by rw [hW4]; exact (Ext.refl _).alloc _)
      clear hW4
      obtain ⟨ti, hti⟩ : ∃ ti, ti = itoaB (tt : Int) := ⟨_, rfl⟩
      rw [← hti] at CI hi
      have HTI := hide hti
      clear hti
      have n1 : ¬ 9223372036854775807 < ti.size + ({ data := #[32] } : ByteArray).size := by show ¬ 9223372036854775807 < ti.size + 1; omega
      have hb1 : (ti ++ ({ data := #[32] } : ByteArray)).size = ti.size + 1 := by rw [ByteArray.size_append]; rfl
      have n2 : ¬ 9223372036854775807 < (ti ++ ({ data := #[32] } : ByteArray)).size + tx.size := by omega
      clear hb1
      refine wp_region_ext (by kernel_rfl) (by kernel_rfl) ?_
      repeat (go_big_quiet_step ((go_at_call 18; exact ext_call (unhide CI _ (unhide HTX _ (((unhide E2).trans (unhide E24)).trans (plus_ext _ _)))))))
      refine wpQuiet_nil ?_
      rintro w5 ⟨xq, hxq⟩
      have E3 : Ext w2 w5 := (unhide E24).trans (by rw [hxq]; exact plus_ext _ _)
      have HF := hide (show StR (.ok (ti ++ blank ++ tx), τ) q X w (.returned (.tuple #[.string (ti ++ blank ++ tx), .bool true])) w5 from ⟨rfl, (unhide HD2).keep E3, Kx.tail (unhide HE1) (unhide HK2) E3⟩)
      rw [unhide HTI] at HF
      clear d0 d1 hxq
      go_wp2
      go_ret2
      have hF := unhide HF
      rw [← unhide HTI] at hF ⊢
      exact hF
    · rw [if_neg he]
      have CD := hide (fun W (D : Dk W q σ X) => do_no D Fi 3 (a : Int) 0 ByteArray.empty (by decide) hd he)
      obtain ⟨tx, tt, tm, er⟩ := an
      simp only at *
      have hf1 := fun w => fld_at tx (tt : Int) 0 (tm : Int) w
      have hf2 := fun w => fld_many tx (tt : Int) 0 (tm : Int) w
      have hf3 := fun w => fld_n (tt : Int) 0 w
      clear hd he OH Fi hxs
      go_enter Tryz.func21, Tryz.ntmps21
      go_wp2_with fail
      refine (unhide CF).mono ?_
      rintro e w1 ⟨⟨v0, rfl, HO⟩, E1⟩
      obtain ⟨g, cap, rfl, hg, hgl, hcap, -, hcell⟩ := row_open HO (by show 0 < 1; omega)
      have c0 : w1.cell? ⟨g, 0, none⟩ = some (.int .i64 (a : Int)) := (hcell 0 (by show 0 < 1 * 1; omega)).trans rfl
      have HD1 := hide ((unhide HD).keep E1)
      have HE1 := hide E1
      clear HO hcell E1
      go_wp2_with fail
      refine (unhide CD _ (unhide HD1)).mono ?_
      rintro e w2 ⟨rfl, D2, K2⟩
      have HF := hide (show StR (.error er, τ) q X w (thrown er) w2 from ⟨rfl, D2, (Kx.of_ext (unhide HE1)).trans K2⟩)
      unfold thrown
      go_wp2
      exact ⟨rfl, unhide HF⟩
set_option maxRecDepth 100000 in
set_option maxHeartbeats 2000000 in
theorem st_down (R : Row w A m 1 (strs ws)) (hm : m ≤ 9223372036854775807) (hws : ∀ s ∈ ws, s.size ≤ 4611686018427387904) (D : Dk w q σ X) (O : ∃ H, Sto.Ok σ H) (HT : PowIs W0) (E0 : Ext W0 w) (hX : ∀ x, x < W0.heap.size → X x) :
    Calls Tryz.prog 21 #[.pointer (some ⟨q, 0, none⟩), .string cDown, .slice A m c] w fun e w' => StR (withT σ (formT ws [false]) fun ns x => ansT (σ.doS 4 0 (ns.getD 0 0 : Nat) ByteArray.empty) (fun _ => okB_)) q X w e w' := by
  obtain ⟨H, OH⟩ := O
  have Fi := OH.fine
  have CF : Hid (Calls Tryz.prog 28 #[.slice A m c, .string ⟨#[110]⟩] w fun e w' => FormPost (formT ws [false]) w e w' ∧ Ext w w') := hide (form_any A m c ws [false] w R hm (by decide))
  have HTX := hide (show ∀ W, Ext W0 W → PowIs W from fun W E => tab_ext HT E)
  have HKE := hide (show ∀ w1 w2, Ext w w1 → Kx X w1 w2 → Ext W0 w2 from fun w1 w2 E K => K.ext (E0.trans E) hX)
  have hfo := fun ns x h => formT_ok (ws := ws) (f := [false]) (ns := ns) (x := x) h
  have hfs := fun ns x h => formT_size (ws := ws) (f := [false]) (ns := ns) (x := x) hws h
  have HD := hide D
  clear D
  generalize formT ws [false] = r at *
  unfold cDown
  cases r with
  | error er =>
    clear hfo hfs
    go_enter Tryz.func21, Tryz.ntmps21
    go_wp2_with fail
    refine (unhide CF).mono ?_
    rintro e w1 ⟨rfl, E1⟩
    unfold thrown
    go_wp2
    exact ⟨rfl, (show StR (.error er, σ) q X w (thrown er) w1 from ⟨rfl, (unhide HD).keep E1, Kx.of_ext E1⟩)⟩
  | ok r =>
    obtain ⟨ns, x⟩ := r
    obtain ⟨-, hl, hs⟩ := hfo ns x rfl
    have hxs := hfs ns x rfl
    obtain ⟨a, rfl⟩ := one_of hl
    have hdo : ∃ an τ, σ.doS 4 0 (a : Int) ByteArray.empty = (an, τ) := ⟨_, _, rfl⟩
    obtain ⟨an, τ, hd⟩ := hdo
    have HG := hide (show withT σ (.ok ([a], x)) (fun ns x => ansT (σ.doS 4 0 (ns.getD 0 0 : Nat) ByteArray.empty) (fun _ => okB_)) = (if an.err = 0 then .ok ((fun _ => okB_) an) else .error an.err, τ) from by
      show ansT (σ.doS 4 0 (a : Int) ByteArray.empty) (fun _ => okB_) = _
      rw [hd]; rfl)
    rw [unhide HG]
    clear hfo hfs hl hs HG
    by_cases he : an.err = 0
    · rw [if_pos he]
      have CD := hide (fun W (D : Dk W q σ X) => do_yes D Fi 4 0 (a : Int) ByteArray.empty (by decide) hd he)
      obtain ⟨tx, tt, tm, er⟩ := an
      simp only at *
      have hf1 := fun w => fld_at tx (tt : Int) 0 (tm : Int) w
      have hf2 := fun w => fld_many tx (tt : Int) 0 (tm : Int) w
      have hf3 := fun w => fld_n (tt : Int) 0 w
      clear hd he OH Fi hxs
      go_enter Tryz.func21, Tryz.ntmps21
      go_wp2_with fail
      refine (unhide CF).mono ?_
      rintro e w1 ⟨⟨v0, rfl, HO⟩, E1⟩
      obtain ⟨g, cap, rfl, hg, hgl, hcap, -, hcell⟩ := row_open HO (by show 0 < 1; omega)
      have c0 : w1.cell? ⟨g, 0, none⟩ = some (.int .i64 (a : Int)) := (hcell 0 (by show 0 < 1 * 1; omega)).trans rfl
      have HD1 := hide ((unhide HD).keep E1)
      have HE1 := hide E1
      clear HO hcell E1
      obtain ⟨wa, wb, wc, ra, rb, rc, rl, Ec⟩ := kinds_look w1 ⟨#[100, 111, 119, 110]⟩ [100, 111, 119, 110] 4 (by kernel_rfl) (by kernel_rfl)
      have hmk : (Instr.makeMap 71 none).run Tryz.prog w1 = .ok (.map (some w1.heap.size)) (w1.alloc (.map #[] 0)) := rfl
      have c0c := Ec.keep c0
      have HDc := hide ((unhide HD1).keep Ec)
      have HEc := hide Ec
      clear Ec
      go_wp2_with fail
      refine (unhide CD _ (unhide HDc)).mono ?_
      rintro e w2 ⟨rfl, D2, K2'⟩
      have K2 : Kx X w1 w2 := (Kx.of_ext (unhide HEc)).trans K2'
      have HF := hide (show StR (.ok okB_, τ) q X w (.returned (.tuple #[.string okB_, .bool true])) w2 from ⟨rfl, D2, (Kx.of_ext (unhide HE1)).trans K2⟩)
      go_wp2
      go_ret2
      exact unhide HF
    · rw [if_neg he]
      have CD := hide (fun W (D : Dk W q σ X) => do_no D Fi 4 0 (a : Int) ByteArray.empty (by decide) hd he)
      obtain ⟨tx, tt, tm, er⟩ := an
      simp only at *
      have hf1 := fun w => fld_at tx (tt : Int) 0 (tm : Int) w
      have hf2 := fun w => fld_many tx (tt : Int) 0 (tm : Int) w
      have hf3 := fun w => fld_n (tt : Int) 0 w
      clear hd he OH Fi hxs
      go_enter Tryz.func21, Tryz.ntmps21
      go_wp2_with fail
      refine (unhide CF).mono ?_
      rintro e w1 ⟨⟨v0, rfl, HO⟩, E1⟩
      obtain ⟨g, cap, rfl, hg, hgl, hcap, -, hcell⟩ := row_open HO (by show 0 < 1; omega)
      have c0 : w1.cell? ⟨g, 0, none⟩ = some (.int .i64 (a : Int)) := (hcell 0 (by show 0 < 1 * 1; omega)).trans rfl
      have HD1 := hide ((unhide HD).keep E1)
      have HE1 := hide E1
      clear HO hcell E1
      obtain ⟨wa, wb, wc, ra, rb, rc, rl, Ec⟩ := kinds_look w1 ⟨#[100, 111, 119, 110]⟩ [100, 111, 119, 110] 4 (by kernel_rfl) (by kernel_rfl)
      have hmk : (Instr.makeMap 71 none).run Tryz.prog w1 = .ok (.map (some w1.heap.size)) (w1.alloc (.map #[] 0)) := rfl
      have c0c := Ec.keep c0
      have HDc := hide ((unhide HD1).keep Ec)
      have HEc := hide Ec
      clear Ec
      go_wp2_with fail
      refine (unhide CD _ (unhide HDc)).mono ?_
      rintro e w2 ⟨rfl, D2, K2'⟩
      have K2 : Kx X w1 w2 := (Kx.of_ext (unhide HEc)).trans K2'
      have HF := hide (show StR (.error er, τ) q X w (thrown er) w2 from ⟨rfl, D2, (Kx.of_ext (unhide HE1)).trans K2⟩)
      unfold thrown
      go_wp2
      exact ⟨rfl, unhide HF⟩
set_option maxRecDepth 100000 in
set_option maxHeartbeats 2000000 in
theorem st_up (R : Row w A m 1 (strs ws)) (hm : m ≤ 9223372036854775807) (hws : ∀ s ∈ ws, s.size ≤ 4611686018427387904) (D : Dk w q σ X) (O : ∃ H, Sto.Ok σ H) (HT : PowIs W0) (E0 : Ext W0 w) (hX : ∀ x, x < W0.heap.size → X x) :
    Calls Tryz.prog 21 #[.pointer (some ⟨q, 0, none⟩), .string cUp, .slice A m c] w fun e w' => StR (withT σ (formT ws [false]) fun ns x => ansT (σ.doS 5 0 (ns.getD 0 0 : Nat) ByteArray.empty) (fun _ => okB_)) q X w e w' := by
  obtain ⟨H, OH⟩ := O
  have Fi := OH.fine
  have CF : Hid (Calls Tryz.prog 28 #[.slice A m c, .string ⟨#[110]⟩] w fun e w' => FormPost (formT ws [false]) w e w' ∧ Ext w w') := hide (form_any A m c ws [false] w R hm (by decide))
  have HTX := hide (show ∀ W, Ext W0 W → PowIs W from fun W E => tab_ext HT E)
  have HKE := hide (show ∀ w1 w2, Ext w w1 → Kx X w1 w2 → Ext W0 w2 from fun w1 w2 E K => K.ext (E0.trans E) hX)
  have hfo := fun ns x h => formT_ok (ws := ws) (f := [false]) (ns := ns) (x := x) h
  have hfs := fun ns x h => formT_size (ws := ws) (f := [false]) (ns := ns) (x := x) hws h
  have HD := hide D
  clear D
  generalize formT ws [false] = r at *
  unfold cUp
  cases r with
  | error er =>
    clear hfo hfs
    go_enter Tryz.func21, Tryz.ntmps21
    go_wp2_with fail
    refine (unhide CF).mono ?_
    rintro e w1 ⟨rfl, E1⟩
    unfold thrown
    go_wp2
    exact ⟨rfl, (show StR (.error er, σ) q X w (thrown er) w1 from ⟨rfl, (unhide HD).keep E1, Kx.of_ext E1⟩)⟩
  | ok r =>
    obtain ⟨ns, x⟩ := r
    obtain ⟨-, hl, hs⟩ := hfo ns x rfl
    have hxs := hfs ns x rfl
    obtain ⟨a, rfl⟩ := one_of hl
    have hdo : ∃ an τ, σ.doS 5 0 (a : Int) ByteArray.empty = (an, τ) := ⟨_, _, rfl⟩
    obtain ⟨an, τ, hd⟩ := hdo
    have HG := hide (show withT σ (.ok ([a], x)) (fun ns x => ansT (σ.doS 5 0 (ns.getD 0 0 : Nat) ByteArray.empty) (fun _ => okB_)) = (if an.err = 0 then .ok ((fun _ => okB_) an) else .error an.err, τ) from by
      show ansT (σ.doS 5 0 (a : Int) ByteArray.empty) (fun _ => okB_) = _
      rw [hd]; rfl)
    rw [unhide HG]
    clear hfo hfs hl hs HG
    by_cases he : an.err = 0
    · rw [if_pos he]
      have CD := hide (fun W (D : Dk W q σ X) => do_yes D Fi 5 0 (a : Int) ByteArray.empty (by decide) hd he)
      obtain ⟨tx, tt, tm, er⟩ := an
      simp only at *
      have hf1 := fun w => fld_at tx (tt : Int) 0 (tm : Int) w
      have hf2 := fun w => fld_many tx (tt : Int) 0 (tm : Int) w
      have hf3 := fun w => fld_n (tt : Int) 0 w
      clear hd he OH Fi hxs
      go_enter Tryz.func21, Tryz.ntmps21
      go_wp2_with fail
      refine (unhide CF).mono ?_
      rintro e w1 ⟨⟨v0, rfl, HO⟩, E1⟩
      obtain ⟨g, cap, rfl, hg, hgl, hcap, -, hcell⟩ := row_open HO (by show 0 < 1; omega)
      have c0 : w1.cell? ⟨g, 0, none⟩ = some (.int .i64 (a : Int)) := (hcell 0 (by show 0 < 1 * 1; omega)).trans rfl
      have HD1 := hide ((unhide HD).keep E1)
      have HE1 := hide E1
      clear HO hcell E1
      obtain ⟨wa, wb, wc, ra, rb, rc, rl, Ec⟩ := kinds_look w1 ⟨#[117, 112]⟩ [117, 112] 5 (by kernel_rfl) (by kernel_rfl)
      have hmk : (Instr.makeMap 71 none).run Tryz.prog w1 = .ok (.map (some w1.heap.size)) (w1.alloc (.map #[] 0)) := rfl
      have c0c := Ec.keep c0
      have HDc := hide ((unhide HD1).keep Ec)
      have HEc := hide Ec
      clear Ec
      go_wp2_with fail
      refine (unhide CD _ (unhide HDc)).mono ?_
      rintro e w2 ⟨rfl, D2, K2'⟩
      have K2 : Kx X w1 w2 := (Kx.of_ext (unhide HEc)).trans K2'
      have HF := hide (show StR (.ok okB_, τ) q X w (.returned (.tuple #[.string okB_, .bool true])) w2 from ⟨rfl, D2, (Kx.of_ext (unhide HE1)).trans K2⟩)
      go_wp2
      go_ret2
      exact unhide HF
    · rw [if_neg he]
      have CD := hide (fun W (D : Dk W q σ X) => do_no D Fi 5 0 (a : Int) ByteArray.empty (by decide) hd he)
      obtain ⟨tx, tt, tm, er⟩ := an
      simp only at *
      have hf1 := fun w => fld_at tx (tt : Int) 0 (tm : Int) w
      have hf2 := fun w => fld_many tx (tt : Int) 0 (tm : Int) w
      have hf3 := fun w => fld_n (tt : Int) 0 w
      clear hd he OH Fi hxs
      go_enter Tryz.func21, Tryz.ntmps21
      go_wp2_with fail
      refine (unhide CF).mono ?_
      rintro e w1 ⟨⟨v0, rfl, HO⟩, E1⟩
      obtain ⟨g, cap, rfl, hg, hgl, hcap, -, hcell⟩ := row_open HO (by show 0 < 1; omega)
      have c0 : w1.cell? ⟨g, 0, none⟩ = some (.int .i64 (a : Int)) := (hcell 0 (by show 0 < 1 * 1; omega)).trans rfl
      have HD1 := hide ((unhide HD).keep E1)
      have HE1 := hide E1
      clear HO hcell E1
      obtain ⟨wa, wb, wc, ra, rb, rc, rl, Ec⟩ := kinds_look w1 ⟨#[117, 112]⟩ [117, 112] 5 (by kernel_rfl) (by kernel_rfl)
      have hmk : (Instr.makeMap 71 none).run Tryz.prog w1 = .ok (.map (some w1.heap.size)) (w1.alloc (.map #[] 0)) := rfl
      have c0c := Ec.keep c0
      have HDc := hide ((unhide HD1).keep Ec)
      have HEc := hide Ec
      clear Ec
      go_wp2_with fail
      refine (unhide CD _ (unhide HDc)).mono ?_
      rintro e w2 ⟨rfl, D2, K2'⟩
      have K2 : Kx X w1 w2 := (Kx.of_ext (unhide HEc)).trans K2'
      have HF := hide (show StR (.error er, τ) q X w (thrown er) w2 from ⟨rfl, D2, (Kx.of_ext (unhide HE1)).trans K2⟩)
      unfold thrown
      go_wp2
      exact ⟨rfl, unhide HF⟩
set_option maxRecDepth 100000 in
set_option maxHeartbeats 2000000 in
theorem st_lose (R : Row w A m 1 (strs ws)) (hm : m ≤ 9223372036854775807) (hws : ∀ s ∈ ws, s.size ≤ 4611686018427387904) (D : Dk w q σ X) (O : ∃ H, Sto.Ok σ H) (HT : PowIs W0) (E0 : Ext W0 w) (hX : ∀ x, x < W0.heap.size → X x) :
    Calls Tryz.prog 21 #[.pointer (some ⟨q, 0, none⟩), .string cLose, .slice A m c] w fun e w' => StR (withT σ (formT ws [false]) fun ns x => ansT (σ.doS 6 0 (ns.getD 0 0 : Nat) ByteArray.empty) (fun _ => okB_)) q X w e w' := by
  obtain ⟨H, OH⟩ := O
  have Fi := OH.fine
  have CF : Hid (Calls Tryz.prog 28 #[.slice A m c, .string ⟨#[110]⟩] w fun e w' => FormPost (formT ws [false]) w e w' ∧ Ext w w') := hide (form_any A m c ws [false] w R hm (by decide))
  have HTX := hide (show ∀ W, Ext W0 W → PowIs W from fun W E => tab_ext HT E)
  have HKE := hide (show ∀ w1 w2, Ext w w1 → Kx X w1 w2 → Ext W0 w2 from fun w1 w2 E K => K.ext (E0.trans E) hX)
  have hfo := fun ns x h => formT_ok (ws := ws) (f := [false]) (ns := ns) (x := x) h
  have hfs := fun ns x h => formT_size (ws := ws) (f := [false]) (ns := ns) (x := x) hws h
  have HD := hide D
  clear D
  generalize formT ws [false] = r at *
  unfold cLose
  cases r with
  | error er =>
    clear hfo hfs
    go_enter Tryz.func21, Tryz.ntmps21
    go_wp2_with fail
    refine (unhide CF).mono ?_
    rintro e w1 ⟨rfl, E1⟩
    unfold thrown
    go_wp2
    exact ⟨rfl, (show StR (.error er, σ) q X w (thrown er) w1 from ⟨rfl, (unhide HD).keep E1, Kx.of_ext E1⟩)⟩
  | ok r =>
    obtain ⟨ns, x⟩ := r
    obtain ⟨-, hl, hs⟩ := hfo ns x rfl
    have hxs := hfs ns x rfl
    obtain ⟨a, rfl⟩ := one_of hl
    have hdo : ∃ an τ, σ.doS 6 0 (a : Int) ByteArray.empty = (an, τ) := ⟨_, _, rfl⟩
    obtain ⟨an, τ, hd⟩ := hdo
    have HG := hide (show withT σ (.ok ([a], x)) (fun ns x => ansT (σ.doS 6 0 (ns.getD 0 0 : Nat) ByteArray.empty) (fun _ => okB_)) = (if an.err = 0 then .ok ((fun _ => okB_) an) else .error an.err, τ) from by
      show ansT (σ.doS 6 0 (a : Int) ByteArray.empty) (fun _ => okB_) = _
      rw [hd]; rfl)
    rw [unhide HG]
    clear hfo hfs hl hs HG
    by_cases he : an.err = 0
    · rw [if_pos he]
      have CD := hide (fun W (D : Dk W q σ X) => do_yes D Fi 6 0 (a : Int) ByteArray.empty (by decide) hd he)
      obtain ⟨tx, tt, tm, er⟩ := an
      simp only at *
      have hf1 := fun w => fld_at tx (tt : Int) 0 (tm : Int) w
      have hf2 := fun w => fld_many tx (tt : Int) 0 (tm : Int) w
      have hf3 := fun w => fld_n (tt : Int) 0 w
      clear hd he OH Fi hxs
      go_enter Tryz.func21, Tryz.ntmps21
      go_wp2_with fail
      refine (unhide CF).mono ?_
      rintro e w1 ⟨⟨v0, rfl, HO⟩, E1⟩
      obtain ⟨g, cap, rfl, hg, hgl, hcap, -, hcell⟩ := row_open HO (by show 0 < 1; omega)
      have c0 : w1.cell? ⟨g, 0, none⟩ = some (.int .i64 (a : Int)) := (hcell 0 (by show 0 < 1 * 1; omega)).trans rfl
      have HD1 := hide ((unhide HD).keep E1)
      have HE1 := hide E1
      clear HO hcell E1
      obtain ⟨wa, wb, wc, ra, rb, rc, rl, Ec⟩ := kinds_look w1 ⟨#[108, 111, 115, 101]⟩ [108, 111, 115, 101] 6 (by kernel_rfl) (by kernel_rfl)
      have hmk : (Instr.makeMap 71 none).run Tryz.prog w1 = .ok (.map (some w1.heap.size)) (w1.alloc (.map #[] 0)) := rfl
      have c0c := Ec.keep c0
      have HDc := hide ((unhide HD1).keep Ec)
      have HEc := hide Ec
      clear Ec
      go_wp2_with fail
      refine (unhide CD _ (unhide HDc)).mono ?_
      rintro e w2 ⟨rfl, D2, K2'⟩
      have K2 : Kx X w1 w2 := (Kx.of_ext (unhide HEc)).trans K2'
      have HF := hide (show StR (.ok okB_, τ) q X w (.returned (.tuple #[.string okB_, .bool true])) w2 from ⟨rfl, D2, (Kx.of_ext (unhide HE1)).trans K2⟩)
      go_wp2
      go_ret2
      exact unhide HF
    · rw [if_neg he]
      have CD := hide (fun W (D : Dk W q σ X) => do_no D Fi 6 0 (a : Int) ByteArray.empty (by decide) hd he)
      obtain ⟨tx, tt, tm, er⟩ := an
      simp only at *
      have hf1 := fun w => fld_at tx (tt : Int) 0 (tm : Int) w
      have hf2 := fun w => fld_many tx (tt : Int) 0 (tm : Int) w
      have hf3 := fun w => fld_n (tt : Int) 0 w
      clear hd he OH Fi hxs
      go_enter Tryz.func21, Tryz.ntmps21
      go_wp2_with fail
      refine (unhide CF).mono ?_
      rintro e w1 ⟨⟨v0, rfl, HO⟩, E1⟩
      obtain ⟨g, cap, rfl, hg, hgl, hcap, -, hcell⟩ := row_open HO (by show 0 < 1; omega)
      have c0 : w1.cell? ⟨g, 0, none⟩ = some (.int .i64 (a : Int)) := (hcell 0 (by show 0 < 1 * 1; omega)).trans rfl
      have HD1 := hide ((unhide HD).keep E1)
      have HE1 := hide E1
      clear HO hcell E1
      obtain ⟨wa, wb, wc, ra, rb, rc, rl, Ec⟩ := kinds_look w1 ⟨#[108, 111, 115, 101]⟩ [108, 111, 115, 101] 6 (by kernel_rfl) (by kernel_rfl)
      have hmk : (Instr.makeMap 71 none).run Tryz.prog w1 = .ok (.map (some w1.heap.size)) (w1.alloc (.map #[] 0)) := rfl
      have c0c := Ec.keep c0
      have HDc := hide ((unhide HD1).keep Ec)
      have HEc := hide Ec
      clear Ec
      go_wp2_with fail
      refine (unhide CD _ (unhide HDc)).mono ?_
      rintro e w2 ⟨rfl, D2, K2'⟩
      have K2 : Kx X w1 w2 := (Kx.of_ext (unhide HEc)).trans K2'
      have HF := hide (show StR (.error er, τ) q X w (thrown er) w2 from ⟨rfl, D2, (Kx.of_ext (unhide HE1)).trans K2⟩)
      unfold thrown
      go_wp2
      exact ⟨rfl, unhide HF⟩
end
end Go.Proofs.YtpenkbhljkmliaaGreatDoor

/-
  The store's commands at the desk: new, what is none, all together.
-/
set_option linter.unusedVariables false
set_option linter.unusedSimpArgs false
namespace Go.Proofs.YtpenkbhljkmliaaGreatDoor
open Go.RowKit Go.BigFrame

/-- The desk's cell turned to a store that has just been made. -/
theorem Dk.fresh {w1 w2 : World} {q : Nat} {σ τ : Sto} {X : Nat → Prop} (D : Dk w1 q σ X) {p g : Nat} {v : Nat → Nat → Value} (S : St w1.heap.size w2 p g v τ) (E : Ext w1 w2) :
    Dk (w2.setCell ⟨q, 0, none⟩ (.pointer (some ⟨p, 0, none⟩))) q τ X ∧ Kx X w1 (w2.setCell ⟨q, 0, none⟩ (.pointer (some ⟨p, 0, none⟩))) ∧ ∃ u, w2.cell? ⟨q, 0, none⟩ = some (.pointer u) ∧ w2.frozen? ⟨q, 0, none⟩ = false := by
  obtain ⟨b0, p0, g0, v0, S0, cq, fq, nX, hx⟩ := D
  have hq := (hx q (.inr rfl)).2
  have cq2 := E.keep cq
  have fq2 : w2.frozen? ⟨q, 0, none⟩ = false := (E.frozen (p := ⟨q, 0, none⟩) hq).trans fq
  have O : Only (fun x => x = q) w2 (w2.setCell ⟨q, 0, none⟩ (.pointer (some ⟨p, 0, none⟩))) := Only.set (F := fun x => x = q) (w := w2) (a := ⟨q, 0, none⟩) Only.refl (.inl rfl) _
  refine ⟨⟨w1.heap.size, p, g, v, S.other O fun x hf hxq => ?_, ?_, ?_, nX, fun x h => ⟨fun hf => ?_, ?_⟩⟩, ?_, ⟨_, cq2, fq2⟩⟩
  · have := S.foot_lo hf
    have hxq : x = q := hxq
    omega
  · simp [go_sem, World.cell?_setCell_same', cq2]
  · rw [← fq2]
    simp [go_sem]
  · have := S.foot_lo hf
    have := (hx x h).2
    omega
  · have h1 := (hx x h).2
    have h2 := E.size
    have h3 := O.size
    omega
  · exact (Only.of_ext E).trans O fun x hxq => by
      have hxq : x = q := hxq
      exact .inl (hxq ▸ nX)

section
variable (A : Option Addr) (m c : Nat) (ws : List ByteArray) (w : World) (q : Nat) (σ : Sto) (X : Nat → Prop)
theorem four_of {ns : List Nat} (h : ns.length = 4) : ∃ a b d e, ns = [a, b, d, e] := by
  match ns, h with
  | [a, b, d, e], _ => exact ⟨a, b, d, e, rfl⟩
/-- What 'new' comes to. -/
def newT (σ : Sto) (ns : List Nat) : Except Int ByteArray × Sto :=
  if qErr (ns.getD 0 0 : Nat) (ns.getD 1 0 : Nat) (ns.getD 2 0 : Nat) (ns.getD 3 0 : Nat) = 0 then (.ok okB_, Sto.new (ns.getD 0 0) (ns.getD 1 0) (ns.getD 2 0) (ns.getD 3 0)) else (.error (qErr (ns.getD 0 0 : Nat) (ns.getD 1 0 : Nat) (ns.getD 2 0 : Nat) (ns.getD 3 0 : Nat)), σ)
set_option maxRecDepth 100000 in
set_option maxHeartbeats 2000000 in
theorem st_new (R : Row w A m 1 (strs ws)) (hm : m ≤ 9223372036854775807) (D : Dk w q σ X) :
    Calls Tryz.prog 21 #[.pointer (some ⟨q, 0, none⟩), .string cNew, .slice A m c] w fun e w' => StR (withT σ (formT ws [false, false, false, false]) fun ns _ => newT σ ns) q X w e w' := by
  have CF : Hid (Calls Tryz.prog 28 #[.slice A m c, .string ⟨#[110, 110, 110, 110]⟩] w fun e w' => FormPost (formT ws [false, false, false, false]) w e w' ∧ Ext w w') := hide (form_any A m c ws [false, false, false, false] w R hm (by decide))
  have hfo := fun ns x h => formT_ok (ws := ws) (f := [false, false, false, false]) (ns := ns) (x := x) h
  have HD := hide D
  clear D
  generalize formT ws [false, false, false, false] = r at *
  unfold cNew
  cases r with
  | error er =>
    clear hfo
    go_enter Tryz.func21, Tryz.ntmps21
    go_wp2_with fail
    refine (unhide CF).mono ?_
    rintro e w1 ⟨rfl, E1⟩
    unfold thrown
    go_wp2
    exact ⟨rfl, (show StR (.error er, σ) q X w (thrown er) w1 from ⟨rfl, (unhide HD).keep E1, Kx.of_ext E1⟩)⟩
  | ok r =>
    obtain ⟨ns, x⟩ := r
    obtain ⟨-, hl, hs⟩ := hfo ns x rfl
    obtain ⟨a, b, d, e, rfl⟩ := four_of hl
    have HG := hide (show withT σ (.ok ([a, b, d, e], x)) (fun ns _ => newT σ ns) = (if qErr a b d e = 0 then (.ok okB_, Sto.new a b d e) else (.error (qErr a b d e), σ)) from rfl)
    rw [unhide HG]
    clear hfo hl hs HG
    by_cases he : qErr a b d e = 0
    · rw [if_pos he]
      have CN := hide (fun W => New_ok a b d e W he)
      clear he
      go_enter Tryz.func21, Tryz.ntmps21
      go_wp2_with fail
      refine (unhide CF).mono ?_
      rintro e w1 ⟨⟨v0, rfl, HO⟩, E1⟩
      obtain ⟨g, cap, rfl, hg, hgl, hcap, -, hcell⟩ := row_open HO (by show 0 < 4; omega)
      have HKS := hide (show ∀ W, Ext w1 W → W.cell? ⟨g, 0, none⟩ = some (.int .i64 (a : Int)) ∧ W.cell? ⟨g, 1, none⟩ = some (.int .i64 (b : Int)) ∧ W.cell? ⟨g, 2, none⟩ = some (.int .i64 (d : Int)) ∧ W.cell? ⟨g, 3, none⟩ = some (.int .i64 (e : Int)) from fun W E =>
        ⟨E.keep ((hcell 0 (by show 0 < 4 * 1; omega)).trans rfl), E.keep ((hcell 1 (by show 1 < 4 * 1; omega)).trans rfl), E.keep ((hcell 2 (by show 2 < 4 * 1; omega)).trans rfl), E.keep ((hcell 3 (by show 3 < 4 * 1; omega)).trans rfl)⟩)
      have HD1 := hide ((unhide HD).keep E1)
      have HE1 := hide E1
      clear HO hcell E1
      go_upto_region 28 with fail
      go_region_held3 (fun W => W.cell? ⟨g, 0, none⟩ = some (.int .i64 (a : Int)) ∧ W.cell? ⟨g, 1, none⟩ = some (.int .i64 (b : Int)) ∧ W.cell? ⟨g, 2, none⟩ = some (.int .i64 (d : Int)) ∧ W.cell? ⟨g, 3, none⟩ = some (.int .i64 (e : Int))) (first
        | exact unhide HKS _ (Ext.refl _).drew
        | exact unhide HKS _ ((Ext.refl _).drew.trans E2)) (first
        | (go_at_call 11; refine (unhide CN _).mono ?_; rintro e w2 ⟨⟨p, gp, vp, rfl, S2⟩, E2⟩))
      obtain ⟨D3, K3, u, cq2, fq2⟩ := Dk.fresh ((unhide HD1).keep (Ext.refl _).drew) S2 E2
      have HF := hide (show StR (.ok okB_, Sto.new a b d e) q X w (.returned (.tuple #[.string okB_, .bool true])) (w2.setCell ⟨q, 0, none⟩ (.pointer (some ⟨p, 0, none⟩))) from ⟨rfl, D3, (Kx.of_ext ((unhide HE1).drew)).trans K3⟩)
      clear D3 K3 S2 E2
      go_wp2_with fail
      refine (check_ok _).mono ?_
      rintro e w3 ⟨rfl, rfl⟩
      go_wp2
      go_ret2
      exact unhide HF
    · rw [if_neg he]
      have CN := hide (fun W => New_bad a b d e W he)
      obtain ⟨er, her⟩ : ∃ er, er = qErr a b d e := ⟨_, rfl⟩
      rw [← her] at CN he ⊢
      clear her
      go_enter Tryz.func21, Tryz.ntmps21
      go_wp2_with fail
      refine (unhide CF).mono ?_
      rintro e w1 ⟨⟨v0, rfl, HO⟩, E1⟩
      obtain ⟨g, cap, rfl, hg, hgl, hcap, -, hcell⟩ := row_open HO (by show 0 < 4; omega)
      have HKS := hide (show ∀ W, Ext w1 W → W.cell? ⟨g, 0, none⟩ = some (.int .i64 (a : Int)) ∧ W.cell? ⟨g, 1, none⟩ = some (.int .i64 (b : Int)) ∧ W.cell? ⟨g, 2, none⟩ = some (.int .i64 (d : Int)) ∧ W.cell? ⟨g, 3, none⟩ = some (.int .i64 (e : Int)) from fun W E =>
        ⟨E.keep ((hcell 0 (by show 0 < 4 * 1; omega)).trans rfl), E.keep ((hcell 1 (by show 1 < 4 * 1; omega)).trans rfl), E.keep ((hcell 2 (by show 2 < 4 * 1; omega)).trans rfl), E.keep ((hcell 3 (by show 3 < 4 * 1; omega)).trans rfl)⟩)
      have HD1 := hide ((unhide HD).keep E1)
      have HE1 := hide E1
      clear HO hcell E1
      go_upto_region 28 with fail
      go_region_held3 (fun W => W.cell? ⟨g, 0, none⟩ = some (.int .i64 (a : Int)) ∧ W.cell? ⟨g, 1, none⟩ = some (.int .i64 (b : Int)) ∧ W.cell? ⟨g, 2, none⟩ = some (.int .i64 (d : Int)) ∧ W.cell? ⟨g, 3, none⟩ = some (.int .i64 (e : Int))) (first
        | exact unhide HKS _ (Ext.refl _).drew
        | exact unhide HKS _ ((Ext.refl _).drew.trans E2)) (first
        | (go_at_call 11; refine (unhide CN _).mono ?_; rintro e w2 ⟨rfl, E2⟩))
      have HF := hide (show StR (.error er, σ) q X w (thrown er) w2 from ⟨rfl, (unhide HD1).keep ((Ext.refl _).drew.trans E2), Kx.of_ext ((unhide HE1).trans ((Ext.refl _).drew.trans E2))⟩)
      clear E2
      go_wp2_with fail
      refine (check_bad _ he _).mono ?_
      rintro e w3 ⟨rfl, rfl⟩
      unfold thrown
      go_wp2
      exact ⟨rfl, unhide HF⟩

set_option maxRecDepth 100000 in
set_option maxHeartbeats 2000000 in
theorem st_none (cmd : ByteArray) (h1 : cmd ≠ cPut) (h2 : cmd ≠ cTorn) (h3 : cmd ≠ cGet) (h4 : cmd ≠ cScrub) (h5 : cmd ≠ cDown) (h6 : cmd ≠ cUp) (h7 : cmd ≠ cLose) (h8 : cmd ≠ cRot) (h9 : cmd ≠ cNew) :
    Calls Tryz.prog 21 #[.pointer (some ⟨q, 0, none⟩), .string cmd, .slice A m c] w fun e w' => e = .returned (.tuple #[.string ⟨#[]⟩, .bool false]) ∧ w' = w := by
  have q1 := ne_list (l := [112, 117, 116]) rfl h1
  have q2 := ne_list (l := [116, 111, 114, 110]) rfl h2
  have q3 := ne_list (l := [103, 101, 116]) rfl h3
  have q4 := ne_list (l := [115, 99, 114, 117, 98]) rfl h4
  have q5 := ne_list (l := [100, 111, 119, 110]) rfl h5
  have q6 := ne_list (l := [117, 112]) rfl h6
  have q7 := ne_list (l := [108, 111, 115, 101]) rfl h7
  have q8 := ne_list (l := [114, 111, 116]) rfl h8
  have q9 := ne_list (l := [110, 101, 119]) rfl h9
  clear h1 h2 h3 h4 h5 h6 h7 h8 h9
  go_enter Tryz.func21, Tryz.ntmps21
  go_wp2
  go_ret2
  exact ⟨rfl, rfl⟩

/-- What the store's commands come to. -/
def StoredR (r : Option (Except Int ByteArray × Sto)) (q : Nat) (σ : Sto) (X : Nat → Prop) (w : World) (e : Ending) (w' : World) : Prop := match r with
  | some r => StR r q X w e w'
  | none => e = .returned (.tuple #[.string ⟨#[]⟩, .bool false]) ∧ w' = w
theorem stored_any (W0 : World) (cmd : ByteArray) (R : Row w A m 1 (strs ws)) (hm : m ≤ 9223372036854775807) (hws : ∀ s ∈ ws, s.size ≤ 4611686018427387904) (D : Dk w q σ X) (O : ∃ H, Sto.Ok σ H) (HT : PowIs W0) (E0 : Ext W0 w) (hX : ∀ x, x < W0.heap.size → X x) :
    Calls Tryz.prog 21 #[.pointer (some ⟨q, 0, none⟩), .string cmd, .slice A m c] w fun e w' => StoredR (storedT qErr σ cmd ws) q σ X w e w' := by
  unfold storedT
  by_cases h1 : cmd = cPut
  · rw [if_pos h1, h1]; exact st_put A m c ws w q σ X W0 R hm hws D O HT E0 hX
  rw [if_neg h1]
  by_cases h2 : cmd = cTorn
  · rw [if_pos h2, h2]; exact st_torn A m c ws w q σ X W0 R hm hws D O HT E0 hX
  rw [if_neg h2]
  by_cases h3 : cmd = cGet
  · rw [if_pos h3, h3]; exact st_get A m c ws w q σ X W0 R hm hws D O HT E0 hX
  rw [if_neg h3]
  by_cases h4 : cmd = cScrub
  · rw [if_pos h4, h4]; exact st_scrub A m c ws w q σ X W0 R hm hws D O HT E0 hX
  rw [if_neg h4]
  by_cases h5 : cmd = cDown
  · rw [if_pos h5, h5]; exact st_down A m c ws w q σ X W0 R hm hws D O HT E0 hX
  rw [if_neg h5]
  by_cases h6 : cmd = cUp
  · rw [if_pos h6, h6]; exact st_up A m c ws w q σ X W0 R hm hws D O HT E0 hX
  rw [if_neg h6]
  by_cases h7 : cmd = cLose
  · rw [if_pos h7, h7]; exact st_lose A m c ws w q σ X W0 R hm hws D O HT E0 hX
  rw [if_neg h7]
  by_cases h8 : cmd = cRot
  · rw [if_pos h8, h8]; exact st_rot A m c ws w q σ X W0 R hm hws D O HT E0 hX
  rw [if_neg h8]
  by_cases h9 : cmd = cNew
  · rw [if_pos h9, h9]; exact st_new A m c ws w q σ X R hm D
  rw [if_neg h9]
  exact st_none A m c w q cmd h1 h2 h3 h4 h5 h6 h7 h8 h9
end
end Go.Proofs.YtpenkbhljkmliaaGreatDoor
