import Derived.Test.YtpenkbhljkmliaaGreatDoorDeskI
import Derived.Test.YtpenkbhljkmliaaGreatDoorDesk2
/-
  The contract of desk.Run: too much, and a script.
-/
set_option linter.unusedVariables false
set_option linter.unusedSimpArgs false
namespace Go.Proofs.YtpenkbhljkmliaaGreatDoor
open Go.RowKit Go.BigFrame

/-! ### Plain: how many words, how long -/
theorem dlen (t : ByteArray) : t.data.toList.length = t.size := by simp
theorem spans_len (p : Nat → Bool) (s : ByteArray) : ∀ (f pos : Nat) (st : Option Nat) (acc : List (Nat × Nat)), (Lib.spansFromP p s f pos st acc).1.length ≤ acc.length + f
  | 0, _, _, acc => by simp [Lib.spansFromP]
  | f + 1, pos, st, acc => by
    unfold Lib.spansFromP
    split
    · split
      · cases st with
        | some a =>
          have := spans_len p s f (pos + (Utf8.decode s pos).2) none (acc ++ [(a, pos)])
          simp only [List.length_append, List.length_cons, List.length_nil] at this
          simp only
          omega
        | none =>
          have := spans_len p s f (pos + (Utf8.decode s pos).2) none acc
          simp only
          omega
      · cases st with
        | some a =>
          have := spans_len p s f (pos + (Utf8.decode s pos).2) (some a) acc
          simp only
          omega
        | none =>
          have := spans_len p s f (pos + (Utf8.decode s pos).2) (some pos) acc
          simp only
          omega
    · show acc.length ≤ _; omega
theorem fields_len (p : Nat → Bool) (s : ByteArray) : (Lib.goFieldsP p s).length ≤ s.size + 1 := by
  have h := spans_len p s s.size 0 none []
  unfold Lib.goFieldsP Lib.spansOfP Lib.closeSpans
  rw [List.length_map]
  split
  · rw [List.length_append, List.length_cons, List.length_nil]
    simp only [List.length_nil] at h
    omega
  · simp only [List.length_nil] at h
    omega
theorem fields_size (p : Nat → Bool) (s : ByteArray) : ∀ y ∈ Lib.goFieldsP p s, y.size ≤ s.size := by
  intro y hy
  unfold Lib.goFieldsP at hy
  obtain ⟨z, -, rfl⟩ := List.mem_map.1 hy
  have h := congrArg List.length (Lib.extract_data s z.1 z.2)
  have h1 := dlen (s.extract z.1 z.2)
  have h2 := dlen s
  rw [h1, List.length_take, List.length_drop, h2] at h
  omega
theorem spl_len : ∀ (l : List UInt8), ∀ x ∈ Wm.spl l, x.length ≤ l.length
  | [], x, hx => by
    simp only [Wm.spl, List.mem_singleton] at hx
    subst hx; exact Nat.le_refl _
  | c :: l, x, hx => by
    have ih := spl_len l
    simp only [Wm.spl] at hx
    split at hx
    · rcases List.mem_cons.1 hx with rfl | h
      · exact Nat.zero_le _
      · exact Nat.le_succ_of_le (ih x h)
    · cases h : Wm.spl l with
      | nil => exact absurd h (Wm.spl_ne l)
      | cons y t =>
        rw [h] at hx ih
        rcases List.mem_cons.1 hx with rfl | h2
        · have := ih y List.mem_cons_self
          simp only [List.length_cons]
          omega
        · exact Nat.le_succ_of_le (ih x (List.mem_cons_of_mem _ h2))
theorem line_size (s : ByteArray) : ∀ x ∈ Wm.lines s, x.size ≤ s.size := fun x hx => by
  have h : x.data.toList ∈ (Wm.lines s).map (·.data.toList) := List.mem_map.2 ⟨x, hx, rfl⟩
  rw [Wm.lines_data] at h
  have h1 := spl_len _ _ h
  have h2 := dlen x
  have h3 := dlen s
  omega

/-! ### The store of a script -/
theorem hq_new : ∀ N K W R : Nat, qErr N K W R = 0 → ClS (Sto.new N K W R) := fun N K W R h => by
  obtain ⟨n, k, x, y, h1, h2, h3, h4, -, g1, g2, g3, g4, g5⟩ := qErr_nat h
  obtain rfl : N = n := by omega
  obtain rfl : K = k := by omega
  obtain rfl : W = x := by omega
  obtain rfl : R = y := by omega
  exact clS_new g1 g2 g3 g4 g5
theorem hc_comp : ∀ cmd ws b, compT cmd ws = .ok b → Gd b := fun cmd ws b h => by
  have bd : ∀ (f : List Bool) (k : List Nat × ByteArray → Except Int ByteArray), (∀ r b, k r = .ok b → Gd b) → (formT ws f).bind k = .ok b → Gd b := fun f k hk hb => by
    cases hf : formT ws f with
    | error e' =>
      rw [hf] at hb
      cases hb
    | ok r => rw [hf] at hb; exact hk r b hb
  have inj : ∀ l : List Int, (Except.ok (numsB l) : Except Int ByteArray) = .ok b → Gd b := fun l h => by
    have : numsB l = b := by simpa using h
    rw [← this]; exact gd_nums l
  unfold compT at h
  split at h
  · exact bd _ _ (fun r b h => by
      simp only [Except.ok.injEq] at h
      rw [← h]; exact gd_nums _) h
  split at h
  · exact bd _ _ (fun r b h => by
      split at h
      · cases h
      · simp only [Except.ok.injEq] at h
        rw [← h]; exact gd_nums _) h
  split at h
  · exact bd _ _ (fun r b h => by
      rw [(rootV_T _ _).1] at h
      split at h
      · simp only [Except.ok.injEq] at h
        rw [← h]; exact gd_nums _
      · cases h) h
  split at h
  · exact bd _ _ (fun r b h => by
      split at h
      · cases h
      · simp only [Except.ok.injEq] at h
        rw [← h]; exact gd_nums _) h
  · cases h
theorem ClS.ok {σ : Sto} (C : ClS σ) : ∃ H, Sto.Ok σ H := by
  obtain ⟨H, O, -⟩ := C
  exact ⟨H, O⟩
/-- What a script answers. -/
noncomputable def run0 (s : ByteArray) : List ByteArray := (runT qErr compT (Sto.new 4 2 3 3) (Wm.lines s)).1
theorem runT_snoc (qe : Int → Int → Int → Int → Int) (comp : ByteArray → List ByteArray → Except Int ByteArray) : ∀ (l : List ByteArray) (x : ByteArray) (σ : Sto), runT qe comp σ (l ++ [x]) = if x = ByteArray.empty then runT qe comp σ l else
    ((runT qe comp σ l).1 ++ [(lineT qe comp (runT qe comp σ l).2 x).1], (lineT qe comp (runT qe comp σ l).2 x).2)
  | [], x, σ => by
    simp only [List.nil_append, runT]
  | y :: l, x, σ => by
    simp only [List.cons_append, runT]
    by_cases hy : y = ByteArray.empty
    · rw [if_pos hy, if_pos hy]
      exact runT_snoc qe comp l x σ
    · rw [if_neg hy, if_neg hy]
      have ih := runT_snoc qe comp l x (lineT qe comp σ y).2
      by_cases hx : x = ByteArray.empty
      · rw [if_pos hx] at ih ⊢
        rw [ih]
      · rw [if_neg hx] at ih ⊢
        rw [ih]; rfl
theorem runT_len (qe : Int → Int → Int → Int → Int) (comp : ByteArray → List ByteArray → Except Int ByteArray) : ∀ (l : List ByteArray) (σ : Sto), (runT qe comp σ l).1.length ≤ l.length
  | [], _ => Nat.le_refl _
  | x :: l, σ => by
    simp only [runT]
    split
    · exact Nat.le_succ_of_le (runT_len qe comp l σ)
    · simp only [List.length_cons]
      exact Nat.succ_le_succ (runT_len qe comp l _)

/-! ### Run -/
theorem lines_ok (s : ByteArray) (hs : s.size < 4294967281) (w : World) (hm : ∃ m : Int, w.cell? ⟨0, 0, none⟩ = some (.int .i64 m)) :
    Calls Tryz.prog 7 #[.string s, .string ⟨#[10]⟩] w fun e w' => (e = .returned (.slice (some ⟨w.heap.size, 0, none⟩) (Wm.lines s).length (Wm.lines s).length) ∧ Row w' (some ⟨w.heap.size, 0, none⟩) (Wm.lines s).length 1 (strs (Wm.lines s))) ∧ Ext w w' ∧ w.heap.size < w'.heap.size := by
  obtain ⟨m, hm⟩ := hm
  refine (Tryz.strings_Split s ⟨#[10]⟩ m w hs hm (by decide)).mono fun e w' ⟨he, hw⟩ => ?_
  have hl : Lib.countB s ⟨#[10]⟩ + 1 = (Wm.lines s).length := (Wm.lines_len s).symm
  have hl2 : (Lib.splitB ⟨#[10]⟩ 0 (Lib.countB s ⟨#[10]⟩) s).map Value.string = strs (Wm.lines s) := rfl
  rw [hl] at he
  rw [hl2] at hw
  have hr := row_new w (strs (Wm.lines s)).toArray 9 (Wm.lines s).length 1 (by simp [strs])
  rw [← hw] at hr
  refine ⟨⟨he, by simpa using hr⟩, by rw [hw]; exact (Ext.refl w).alloc _, by rw [hw]; simp⟩

set_option maxRecDepth 100000 in
set_option maxHeartbeats 1000000 in
theorem run_large (s : ByteArray) (hs : s.size < 4294967281) (w : World) (hm : ∃ m : Int, w.cell? ⟨0, 0, none⟩ = some (.int .i64 m)) (h : 4096 < s.size ∨ 60 < (Wm.lines s).length) (hl9 : (Wm.lines s).length ≤ 9223372036854775807) :
    Calls Tryz.prog 5 #[.string s] w fun e w' => e = .returned (.tuple #[.slice none 0 0, .int .i64 2]) ∧ Ext w w' := by
  have CS := hide (lines_ok s hs w hm)
  generalize (Wm.lines s).length = n at *
  by_cases h1 : 4096 < s.size
  · have i1 : decide ((4096 : Int) < (s.size : Int)) = true := decide_eq_true (by omega)
    clear hm h h1
    go_enter Tryz.func5, Tryz.ntmps5
    go_wp2_with fail
    refine (unhide CS).mono ?_
    rintro e w1 ⟨⟨rfl, R1⟩, E1, -⟩
    clear R1 CS
    go_wp2
    go_ret2
    exact ⟨rfl, E1⟩
  · have i1 : decide ((4096 : Int) < (s.size : Int)) = false := decide_eq_false (by omega)
    have i2 : decide ((60 : Int) < (n : Int)) = true := decide_eq_true (by omega)
    clear hm h h1
    go_enter Tryz.func5, Tryz.ntmps5
    go_wp2_with fail
    refine (unhide CS).mono ?_
    rintro e w1 ⟨⟨rfl, R1⟩, E1, -⟩
    clear R1 CS
    go_wp2
    go_ret2
    exact ⟨rfl, E1⟩
end Go.Proofs.YtpenkbhljkmliaaGreatDoor

/-
  The contract of desk.Run at a script that is not too large.
-/
set_option linter.unusedVariables false
set_option linter.unusedSimpArgs false
namespace Go.Proofs.YtpenkbhljkmliaaGreatDoor
open Go.RowKit Go.BigFrame

theorem strD : EInfo Tryz.prog 22 9 (.string ⟨#[]⟩) 1 16 := EInfo.mk_ Tryz.underlying22 (by kernel_rfl) rfl (by omega)
theorem strs_all (l : List ByteArray) : (strs l).all (fun u => u.oneCell') = true := List.all_eq_true.2 (strs_one l)
/-- How a script stands on the way: its lines, the desk, the answers so far. -/
structure RunAt (w wr : World) (q Lb n k : Nat) (l : List ByteArray) (v : Value) (X : Nat → Prop) (σ : Sto) (out : List ByteArray) : Prop where
  told : runT qErr compT (Sto.new 4 2 3 3) (l.take k) = (out, σ)
  cls : ClS σ
  dk : Dk wr q σ X
  low : ∀ x, x < w.heap.size → X x
  lb : X Lb
  own : ∀ g, v.ownBlock = some g → X g
  row : wr.ownsRow w.heap.size 9 1 v out.length (strs out)
  lines : Row wr (some ⟨Lb, 0, none⟩) n 1 (strs l)
  ext : Ext w wr
  few : out.length ≤ k
  off : v.ownBlock ≠ some Lb
theorem Dk.start {w1 w2 : World} {p g : Nat} {v : Nat → Nat → Value} {σ : Sto} (S : St w1.heap.size w2 p g v σ) (E : Ext w1 w2) (T : TypeId) : Dk (w2.alloc (.cells #[.pointer (some ⟨p, 0, none⟩)] T)) w2.heap.size σ (fun x => x < w1.heap.size) := by
  have h := E.size
  refine ⟨w1.heap.size, p, g, v, S.keep ((Ext.refl w2).alloc _), new_cell w2 _ T 0, new_frozen w2 _ T 0, fun hx => by have hx : w2.heap.size < w1.heap.size := hx; omega, fun x hx => ?_⟩
  have hs : (w2.alloc (.cells #[.pointer (some ⟨p, 0, none⟩)] T)).heap.size = w2.heap.size + 1 := by simp
  rcases hx with hx | hx
  · have hx : x < w1.heap.size := hx
    exact ⟨fun hf => by have := S.foot_lo hf; omega, by omega⟩
  · subst hx
    exact ⟨fun hf => by have := S.foot_hi hf; omega, by omega⟩
theorem Row.blk {w w' : World} {b n : Nat} {xs : List Value} (R : Row w (some ⟨b, 0, none⟩) n 1 xs) (hb : w'.heap[b]? = w.heap[b]?) (hs : w.heap.size ≤ w'.heap.size) : Row w' (some ⟨b, 0, none⟩) n 1 xs := by
  refine ⟨R.1, fun hn => ?_⟩
  obtain ⟨b1, o1, hA, hb1, hc⟩ := R.2 hn
  injection hA with hA
  injection hA with h1 h2
  subst h1
  subst h2
  exact ⟨b, 0, rfl, Nat.lt_of_lt_of_le hb1 hs, fun j hj => (World.cell?_of_block (a := ⟨b, 0 + j, none⟩) hb).trans (hc j hj)⟩
theorem RunAt.step {w wr w3 w5 : World} {q Lb n k : Nat} {l : List ByteArray} {v v' : Value} {X : Nat → Prop} {σ τ : Sto} {out : List ByteArray} {x ans : ByteArray} (H : RunAt w wr q Lb n k l v X σ out) (hk : k < l.length) (hx : l.getD k ByteArray.empty = x) (hne : x ≠ ByteArray.empty)
    (hr : lineT qErr compT σ x = (ans, τ)) (hcl : Cl x) (D3 : Dk w3 q τ X) (K3 : Kx X wr w3) (hown : w5.ownsRow w.heap.size 9 1 v' (out.length + 1) (strs out ++ [.string ans])) (hE : Ext w w5) (hO : OutOf w3 v w5 v') :
    ∃ X', RunAt w w5 q Lb n (k + 1) l v' X' τ (out ++ [ans]) := by
  have hlb : Lb < wr.heap.size := H.dk.below _ H.lb
  have hlb3 := Nat.lt_of_lt_of_le hlb K3.size
  have hO1 : Only (fun y => v.ownBlock = some y) w3 w5 := Only.grown hO.1 fun y hy => hy
  refine ⟨fun y => X y ∨ (w3.heap.size ≤ y ∧ y < w5.heap.size), ?_⟩
  exact {
    told := by
      rw [take_snoc l ByteArray.empty hk, hx, runT_snoc, if_neg hne, H.told]
      simp only [hr]
    cls := by
      have h := (gd_line H.cls hq_new hc_comp hcl).2
      rwa [hr] at h
    dk := D3.turn hO1 fun y hy => H.own y hy
    low := fun y hy => .inl (H.low y hy)
    lb := .inl H.lb
    own := fun g hg => by
      rcases hO.2 with h | ⟨j, h, hj⟩
      · rw [h] at hg; exact .inl (H.own g hg)
      · rw [h] at hg
        injection hg with hg
        subst hg
        exact .inr ⟨hj, (hown.lt j h).2⟩
    row := by
      rw [List.length_append]
      have e : strs (out ++ [ans]) = strs out ++ [.string ans] := (strs_append out [ans]).symm
      rw [e]; exact hown
    lines := (H.lines.blk (K3.block hlb H.lb) K3.size).blk (hO1.block Lb hlb3 H.off) hO1.size
    ext := hE
    few := by
      have := H.few
      simp only [List.length_append, List.length_cons, List.length_nil]
      omega
    off := by
      rcases hO.2 with h | ⟨j, h, hj⟩
      · rw [h]; exact H.off
      · rw [h]
        intro e
        injection e with e
        omega }
theorem RunAt.skip {w wr : World} {q Lb n k : Nat} {l : List ByteArray} {v : Value} {X : Nat → Prop} {σ : Sto} {out : List ByteArray} (H : RunAt w wr q Lb n k l v X σ out) (hk : k < l.length) (hx : l.getD k ByteArray.empty = ByteArray.empty) : RunAt w wr q Lb n (k + 1) l v X σ out :=
  { told := by rw [take_snoc l ByteArray.empty hk, hx, runT_snoc, if_pos rfl, H.told], cls := H.cls, dk := H.dk, low := H.low, lb := H.lb, own := H.own, row := H.row, lines := H.lines, ext := H.ext, few := Nat.le_succ_of_le H.few, off := H.off }

set_option maxRecDepth 100000 in
set_option maxHeartbeats 2000000 in
theorem run_ok (s : ByteArray) (hs : s.size ≤ 4096) (hl : (Wm.lines s).length ≤ 60) (w : World) (hm : ∃ m : Int, w.cell? ⟨0, 0, none⟩ = some (.int .i64 m)) (HT : PowIs w) :
    Calls Tryz.prog 5 #[.string s] w fun e w' => (∃ v, e = .returned (.tuple #[v, .int .i64 0]) ∧ w'.ownsRow w.heap.size 9 1 v (run0 s).length (strs (run0 s))) ∧ Ext w w' := by
  have CS := hide (lines_ok s (by omega) w hm)
  have hcl := cl_lines s
  have hsz := line_size s
  have hq0 : qErr (4 : Nat) (2 : Nat) (3 : Nat) (3 : Nat) = 0 := by decide
  have CN : Hid (∀ W, Calls Tryz.prog 11 #[.agg #[.int .i64 4, .int .i64 2, .int .i64 3, .int .i64 3]] W fun e w' => (∃ p g v, e = .returned (.tuple #[.pointer (some ⟨p, 0, none⟩), .int .i64 0]) ∧ St W.heap.size w' p g v (Sto.new 4 2 3 3)) ∧ Ext W w') := hide (fun W => New_ok 4 2 3 3 W hq0)
  have HTT := hide HT
  have hR0 : run0 s = (runT qErr compT (Sto.new 4 2 3 3) (Wm.lines s)).1 := rfl
  rw [hR0]
  generalize Wm.lines s = l at *
  have i1 : decide ((4096 : Int) < (s.size : Int)) = false := decide_eq_false (by omega)
  obtain ⟨n, hn⟩ : ∃ n, n = l.length := ⟨_, rfl⟩
  rw [← hn] at CS hl
  have i2 : decide ((60 : Int) < (n : Int)) = false := decide_eq_false (by omega)
  have HCL := hide hcl
  have HSZ := hide (show ∀ x ∈ l, x.size ≤ 4096 from fun x hx => Nat.le_trans (hsz x hx) hs)
  have HN := hide hn
  clear hm hs hcl hsz HT hR0 hq0 hn
  go_enter Tryz.func5, Tryz.ntmps5
  go_wp2_with fail
  refine (unhide CS).mono ?_
  rintro e w1 ⟨⟨rfl, R1⟩, E1, hlt1⟩
  have HR1 := hide R1
  have HE1 := hide E1
  clear R1 E1 CS
  go_wp2_with fail
  refine (unhide CN _).mono ?_
  rintro e w2 ⟨⟨p, g, v, rfl, S2⟩, E2⟩
  have HRA := hide (show RunAt w (w2.alloc (.cells #[.pointer (some ⟨p, 0, none⟩)] 38)) w2.heap.size w.heap.size n 0 l (.slice none 0 0) (fun x => x < w1.heap.size) (Sto.new 4 2 3 3) [] from {
    told := rfl
    cls := hq_new 4 2 3 3 (by decide)
    dk := Dk.start S2 E2 _
    low := fun x hx => Nat.lt_of_lt_of_le hx (unhide HE1).size
    lb := hlt1
    own := fun g hg => by cases hg
    row := World.ownsRow_nil _ _ _ _
    lines := (unhide HR1).keep (E2.alloc _)
    ext := ((unhide HE1).trans E2).alloc _
    few := Nat.le_refl _
    off := fun h => by cases h })
  clear S2 E2 CN HR1 hlt1
  go_wp2
  go_loopw [8, 31] (fun v i wr => ∃ k X σ out, k ≤ n ∧ i = .int .i64 (k : Nat) ∧ Hid (RunAt w wr w2.heap.size w.heap.size n k l v X σ out)) (fun _ i _ => n - (intOf i).toNat)
  case atStart => exact ⟨0, _, _, _, Nat.zero_le _, rfl, HRA⟩
  case round =>
    clear HRA
    obtain ⟨k, X, σ, out, hk, rfl, HR⟩ := hrel
    by_cases hlt : k < n
    · have hkl : k < l.length := by have := unhide HN; omega
      obtain ⟨b1, o1, hA, hb, hc⟩ := (unhide HR).lines.str hlt
      injection hA with hA
      injection hA with h1 h2
      subst h1
      subst h2
      have hxm : l.getD k ByteArray.empty ∈ l := getD_mem l _ hkl
      have hcl := unhide HCL _ hxm
      have hsz := unhide HSZ _ hxm
      obtain ⟨x, hx⟩ : ∃ x, l.getD k ByteArray.empty = x := ⟨_, rfl⟩
      rw [hx, Nat.zero_add] at hc
      rw [hx] at hcl hsz
      by_cases hxe : x = ByteArray.empty
      · have HS := hide ((unhide HR).skip hkl (hx.trans hxe))
        have q1 : (x.toList == []) = true := by rw [hxe, ByteArray.toList_eq]; rfl
        clear hxe hx hcl hsz hxm
        go_wp2
        go_roundw
        case rel => exact ⟨k + 1, X, σ, out, by omega, by go_num, HS⟩
        case measure => simp [intOf]; omega
      · have q1 : (x.toList == []) = false := ne_list (b := ByteArray.empty) rfl hxe
        obtain ⟨r, hr⟩ : ∃ r, lineT qErr compT σ x = r := ⟨_, rfl⟩
        obtain ⟨ans, τ⟩ := r
        have CL := hide (line_any wr w2.heap.size σ X w (unhide HR).dk (unhide HR).cls.ok (unhide HTT) (unhide HR).ext (unhide HR).low x hsz (fun L hL => by
          rw [← hL]
          have h1 := fields_len (fun c => c == 32) x
          exact ⟨by omega, fun y hy => by have := fields_size (fun c => c == 32) x y hy; omega⟩))
        rw [hr] at CL
        have HST := hide (fun w3 w5 v' => RunAt.step (w3 := w3) (w5 := w5) (v' := v') (unhide HR) hkl hx hxe hr hcl)
        have hbd : (out.length + 1) * 16 ≤ 140737488355328 ∧ out.length + 1 ≤ 9223372036854775807 := by have := (unhide HR).few; omega
        clear hxe hx hcl hsz hxm hr
        go_wp2_with fail
        refine (unhide CL).mono ?_
        rintro e w3 ⟨rfl, D3, K3⟩
        have hext := K3.ext (unhide HR).ext (unhide HR).low
        have HOW := hide (own_kept (unhide HR).row (fun g hg => K3.block ((unhide HR).row.lt g hg).2 ((unhide HR).own g hg)))
        have HDK := hide (And.intro D3 K3)
        clear D3 K3 CL
        go_wp2_with (at_builtin; refine wpList_apx rfl _ _ 22 (by rfl) 9 strD hext _ _ _ _ (by rfl) (unhide HOW) 1 1 (by rfl) rfl rfl hbd (OutOf.refl w3 _) ?_)
        intro v' w5 hown' hext' hout'
        obtain ⟨X', HN5⟩ := unhide HST w3 w5 v' (unhide HDK).1 (unhide HDK).2 hown' hext' hout'
        have HN5 := hide HN5
        clear hown' hext' hout' hext hbd
        go_wp2
        go_roundw
        case rel => exact ⟨k + 1, X', τ, out ++ [ans], by omega, by go_num, HN5⟩
        case measure => simp [intOf]; omega
    · obtain rfl : n = k := by omega
      have HFIN := hide (show wr.ownsRow w.heap.size 9 1 _ (runT qErr compT (Sto.new 4 2 3 3) l).1.length (strs (runT qErr compT (Sto.new 4 2 3 3) l).1) from by
        have h := (unhide HR).told
        rw [List.take_of_length_le (by have := unhide HN; omega)] at h
        rw [h]
        exact (unhide HR).row)
      have HEX := hide (unhide HR).ext
      go_wp2
      go_ret2
      exact ⟨⟨_, rfl, unhide HFIN⟩, unhide HEX⟩
end Go.Proofs.YtpenkbhljkmliaaGreatDoor

/-
  Plain: what the desk answers to the two scripts that the laws begin with.
-/
set_option linter.unusedVariables false
set_option linter.unusedSimpArgs false
namespace Go.Proofs.YtpenkbhljkmliaaGreatDoor

theorem itoa_small (n : Nat) (h : n < 10) : itoaB (n : Int) = ⟨#[UInt8.ofNat (48 + n)]⟩ := by
  unfold itoaB Lib.itoa
  rw [if_neg (by omega), Int.toNat_natCast, Lib.decDigits, dif_pos h]
theorem itoa_neg (n : Nat) (h : n < 10) (h0 : 0 < n) : itoaB (-(n : Int)) = ⟨#[45, UInt8.ofNat (48 + n)]⟩ := by
  unfold itoaB Lib.itoa
  rw [if_pos (by omega), Int.natAbs_neg, Int.natAbs_natCast, Lib.decDigits, dif_pos h]
theorem itoa_two (n : Nat) (h : 10 ≤ n) (h2 : n < 100) : itoaB (n : Int) = ⟨#[UInt8.ofNat (48 + n / 10), UInt8.ofNat (48 + n % 10)]⟩ := by
  unfold itoaB Lib.itoa
  rw [if_neg (by omega), Int.toNat_natCast, Lib.decDigits, dif_neg (by omega), Lib.decDigits, dif_pos (by omega)]
  rfl
def scrA : ByteArray := ⟨#[112, 117, 116, 32, 49, 32, 97, 98, 99, 10, 100, 111, 119, 110, 32, 48, 10, 103, 101, 116, 32, 49, 10, 110, 111, 10, 103, 101, 116, 32, 50]⟩
def scrB : ByteArray := ⟨#[103, 99, 100, 32, 49, 50, 32, 49, 56, 10, 10, 102, 97, 99, 116, 111, 114, 32, 49, 50]⟩
theorem lines_A : Wm.lines scrA = [⟨#[112, 117, 116, 32, 49, 32, 97, 98, 99]⟩, ⟨#[100, 111, 119, 110, 32, 48]⟩, ⟨#[103, 101, 116, 32, 49]⟩, ⟨#[110, 111]⟩, ⟨#[103, 101, 116, 32, 50]⟩] := by decide +kernel
theorem lines_B : Wm.lines scrB = [⟨#[103, 99, 100, 32, 49, 50, 32, 49, 56]⟩, ⟨#[]⟩, ⟨#[102, 97, 99, 116, 111, 114, 32, 49, 50]⟩] := by decide +kernel
theorem f_put : Lib.goFieldsP (fun c => c == 32) ⟨#[112, 117, 116, 32, 49, 32, 97, 98, 99]⟩ = [cPut, ⟨#[49]⟩, abc] := by decide +kernel
theorem f_down : Lib.goFieldsP (fun c => c == 32) ⟨#[100, 111, 119, 110, 32, 48]⟩ = [cDown, ⟨#[48]⟩] := by decide +kernel
theorem f_get1 : Lib.goFieldsP (fun c => c == 32) ⟨#[103, 101, 116, 32, 49]⟩ = [cGet, ⟨#[49]⟩] := by decide +kernel
theorem f_no : Lib.goFieldsP (fun c => c == 32) ⟨#[110, 111]⟩ = [⟨#[110, 111]⟩] := by decide +kernel
theorem f_get2 : Lib.goFieldsP (fun c => c == 32) ⟨#[103, 101, 116, 32, 50]⟩ = [cGet, ⟨#[50]⟩] := by decide +kernel
theorem f_gcd : Lib.goFieldsP (fun c => c == 32) ⟨#[103, 99, 100, 32, 49, 50, 32, 49, 56]⟩ = [cGcd, ⟨#[49, 50]⟩, ⟨#[49, 56]⟩] := by decide +kernel
theorem f_fac : Lib.goFieldsP (fun c => c == 32) ⟨#[102, 97, 99, 116, 111, 114, 32, 49, 50]⟩ = [cFactor, ⟨#[49, 50]⟩] := by decide +kernel
theorem t_put : formT [⟨#[49]⟩, abc] [false, true] = .ok ([1], abc) := by rfl
theorem t_zero : formT [⟨#[48]⟩] [false] = .ok ([0], ByteArray.empty) := by rfl
theorem t_one : formT [⟨#[49]⟩] [false] = .ok ([1], ByteArray.empty) := by rfl
theorem t_two : formT [⟨#[50]⟩] [false] = .ok ([2], ByteArray.empty) := by rfl
theorem t_gcd : formT [⟨#[49, 50]⟩, ⟨#[49, 56]⟩] [false, false] = .ok ([12, 18], ByteArray.empty) := by rfl
theorem t_fac : formT [⟨#[49, 50]⟩] [false] = .ok ([12], ByteArray.empty) := by rfl
/-! ### The first script -/
def kσ3 : Sto := (kσ2.doS 3 1 0 ⟨#[]⟩).2
theorem doS_eta (σ : Sto) (kind key n : Int) (s : ByteArray) : σ.doS kind key n s = ((σ.doS kind key n s).1, (σ.doS kind key n s).2) := rfl
theorem k1_eq : kσ1 = { kσ with wr := 1, kept := kσ.putK 1 abc kσ.ups } := by
  have hk : Sto.isKey 1 := by unfold Sto.isKey; omega
  have hs : kσ.splitE abc = 0 := by decide +kernel
  unfold kσ1
  rw [doS_ok (by
    rintro (h | h | h)
    · omega
    · omega
    · exact h.2 hk), if_pos rfl]
  unfold Sto.putS
  rw [show (1 : Int).toNat = 1 from rfl, hs, if_neg (by decide)]
  rfl
theorem k2_eq : kσ2 = { kσ1 with down := fun i => if i = 0 then true else kσ1.down i } := by
  have hN : kσ1.N = 4 := by rw [k1_eq]; rfl
  unfold kσ2
  rw [doS_ok (by
    rintro (h | h | h)
    · omega
    · omega
    · have := h.1; unfold Sto.keyed at this; omega), if_neg (by decide), if_neg (by decide), if_neg (by decide), if_neg (by decide)]
  unfold Sto.atS
  rw [if_neg (by unfold Sto.isNode; rw [hN]; omega), if_pos rfl]
  rfl
set_option maxRecDepth 100000 in
theorem k3_eq : kσ3 = kσ2.readT 1 := by
  have hk : Sto.isKey 1 := by unfold Sto.isKey; omega
  have h0 : (kσ2.doS 3 1 0 ⟨#[]⟩).1.err = 0 := by rw [kept_plain.2.2.1]
  unfold kσ3
  rw [doS_ok (by
    rintro (h | h | h)
    · omega
    · omega
    · exact h.2 hk), if_neg (by decide), if_neg (by decide), if_pos rfl, show (1 : Int).toNat = 1 from rfl] at h0 ⊢
  unfold Sto.getS at h0 ⊢
  by_cases hr : kσ2.readE 1 = 0
  · rw [if_neg (by simpa using hr)]
  · rw [if_pos hr] at h0
    exact absurd h0 hr
set_option maxRecDepth 100000 in
theorem k3_get2 : (kσ3.doS 3 2 0 ByteArray.empty).1.err = 4 := by
  have hk : Sto.isKey 2 := by unfold Sto.isKey; omega
  have hN : kσ3.N = 4 := by rw [k3_eq]; show kσ2.N = 4; rw [k2_eq]; show kσ1.N = 4; rw [k1_eq]; rfl
  have hR : kσ3.R = 3 := by rw [k3_eq]; show kσ2.R = 3; rw [k2_eq]; show kσ1.R = 3; rw [k1_eq]; rfl
  have hW : kσ3.W = 3 := by rw [k3_eq]; show kσ2.W = 3; rw [k2_eq]; show kσ1.W = 3; rw [k1_eq]; rfl
  have hD1 : kσ1.down = fun _ => false := by rw [k1_eq]; rfl
  have hD : kσ3.down = fun i => if i = 0 then true else false := by
    rw [k3_eq]; show kσ2.down = _; rw [k2_eq]; show (fun i => if i = 0 then true else kσ1.down i) = _; rw [hD1]
  have hu : kσ3.ups = [1, 2, 3] := by
    unfold Sto.ups
    rw [hN, hD]
    decide
  have hK : ∀ i, kσ3.kept i 2 = [] := fun i => by
    rw [k3_eq]
    show kσ2.readK 1 (kσ2.readAt 1) (kσ2.readText 1) kσ2.ups i 2 = []
    unfold Sto.readK
    rw [if_neg (by omega), k2_eq]
    show kσ1.kept i 2 = []
    rw [k1_eq]
    show kσ.putK 1 abc kσ.ups i 2 = []
    unfold Sto.putK
    rw [if_neg (by omega)]
    rfl
  have hst : kσ3.stamps 2 = [] := by
    unfold Sto.stamps Sto.stampsOf
    rw [hu]
    simp [hK]
  have hnw : kσ3.newest 2 = none := by
    unfold Sto.newest Sto.newestOf
    rw [hst]; rfl
  have hE : kσ3.readE 2 = 4 := by
    unfold Sto.readE
    rw [if_neg (by rw [hu, hR, hW]; decide), hnw]
    rfl
  rw [doS_ok (by
    rintro (h | h | h)
    · omega
    · omega
    · exact h.2 hk), if_neg (by decide), if_neg (by decide), if_pos rfl, show (2 : Int).toNat = 2 from rfl]
  unfold Sto.getS
  rw [hE, if_pos (by decide)]
  rfl
section
theorem lineT_st {σ : Sto} {s : ByteArray} {cmd : ByteArray} {ws : List ByteArray} {r : Except Int ByteArray × Sto} (hf : Lib.goFieldsP (fun c => c == 32) s = cmd :: ws) (hs : storedT qErr σ cmd ws = some r) : lineT qErr compT σ s = (match r.1 with | .ok b => b | .error e => errB e, r.2) := by
  unfold lineT
  rw [hf]
  show (match ((storedT qErr σ cmd ws).getD (compT cmd ws, σ)).1 with | .ok b => b | .error e => errB e, ((storedT qErr σ cmd ws).getD (compT cmd ws, σ)).2) = _
  rw [hs]; rfl
theorem lineT_co {σ : Sto} {s : ByteArray} {cmd : ByteArray} {ws : List ByteArray} (hf : Lib.goFieldsP (fun c => c == 32) s = cmd :: ws) (hs : storedT qErr σ cmd ws = none) : lineT qErr compT σ s = (match compT cmd ws with | .ok b => b | .error e => errB e, σ) := by
  unfold lineT
  rw [hf]
  show (match ((storedT qErr σ cmd ws).getD (compT cmd ws, σ)).1 with | .ok b => b | .error e => errB e, ((storedT qErr σ cmd ws).getD (compT cmd ws, σ)).2) = _
  rw [hs]; rfl
end
set_option maxRecDepth 100000 in
theorem a_put : lineT qErr compT kσ ⟨#[112, 117, 116, 32, 49, 32, 97, 98, 99]⟩ = (⟨#[49]⟩, kσ1) := by
  have hs : storedT qErr kσ cPut [⟨#[49]⟩, abc] = some (.ok (itoaB 1), kσ1) := by
    unfold storedT
    rw [if_pos rfl, t_put]
    show some (ansT (kσ.doS 1 1 0 abc) fun a => itoaB a.at_) = _
    unfold ansT
    rw [kept_plain.1, if_pos rfl]
    rfl
  rw [lineT_st f_put hs]
  show (itoaB ((1 : Nat) : Int), kσ1) = _
  rw [itoa_small 1 (by omega)]
  rfl
set_option maxRecDepth 100000 in
theorem a_down : lineT qErr compT kσ1 ⟨#[100, 111, 119, 110, 32, 48]⟩ = (⟨#[111, 107]⟩, kσ2) := by
  have hs : storedT qErr kσ1 cDown [⟨#[48]⟩] = some (.ok okB_, kσ2) := by
    unfold storedT
    rw [if_neg (by decide +kernel), if_neg (by decide +kernel), if_neg (by decide +kernel), if_neg (by decide +kernel), if_pos rfl, t_zero]
    show some (ansT (kσ1.doS 4 0 0 ⟨#[]⟩) fun _ => okB_) = _
    unfold ansT
    rw [kept_plain.2.1, if_pos rfl]
    rfl
  rw [lineT_st f_down hs]
  rfl
set_option maxRecDepth 100000 in
theorem a_get1 : lineT qErr compT kσ2 ⟨#[103, 101, 116, 32, 49]⟩ = (⟨#[49, 32, 97, 98, 99]⟩, kσ3) := by
  have hs : storedT qErr kσ2 cGet [⟨#[49]⟩] = some (.ok (itoaB 1 ++ blank ++ abc), kσ3) := by
    unfold storedT
    rw [if_neg (by decide +kernel), if_neg (by decide +kernel), if_pos rfl, t_one]
    show some (ansT (kσ2.doS 3 1 0 ⟨#[]⟩) fun a => itoaB a.at_ ++ blank ++ a.text) = _
    unfold ansT
    rw [kept_plain.2.2.1, if_pos rfl]
    rfl
  rw [lineT_st f_get1 hs]
  show (itoaB ((1 : Nat) : Int) ++ blank ++ abc, kσ3) = _
  rw [itoa_small 1 (by omega)]
  rfl
set_option maxRecDepth 100000 in
theorem a_no : lineT qErr compT kσ3 ⟨#[110, 111]⟩ = (⟨#[101, 114, 114, 111, 114, 32, 49, 50]⟩, kσ3) := by
  have hs : storedT qErr kσ3 ⟨#[110, 111]⟩ [] = none := by
    unfold storedT
    rw [if_neg (by decide +kernel), if_neg (by decide +kernel), if_neg (by decide +kernel), if_neg (by decide +kernel), if_neg (by decide +kernel), if_neg (by decide +kernel), if_neg (by decide +kernel), if_neg (by decide +kernel), if_neg (by decide +kernel)]
  have hc : compT ⟨#[110, 111]⟩ [] = .error 12 := by
    unfold compT
    rw [if_neg (by decide +kernel), if_neg (by decide +kernel), if_neg (by decide +kernel), if_neg (by decide +kernel)]
  rw [lineT_co f_no hs, hc]
  show (⟨#[101, 114, 114, 111, 114, 32]⟩ ++ itoaB ((12 : Nat) : Int), kσ3) = _
  rw [itoa_two 12 (by omega) (by omega)]
  rfl
set_option maxRecDepth 100000 in
theorem a_get2 : (lineT qErr compT kσ3 ⟨#[103, 101, 116, 32, 50]⟩).1 = ⟨#[101, 114, 114, 111, 114, 32, 52]⟩ := by
  have hs : storedT qErr kσ3 cGet [⟨#[50]⟩] = some (.error 4, (kσ3.doS 3 2 0 ByteArray.empty).2) := by
    unfold storedT
    rw [if_neg (by decide +kernel), if_neg (by decide +kernel), if_pos rfl, t_two]
    show some (ansT (kσ3.doS 3 2 0 ByteArray.empty) fun a => itoaB a.at_ ++ blank ++ a.text) = _
    unfold ansT
    rw [k3_get2, if_neg (by decide)]
  rw [lineT_st f_get2 hs]
  show ⟨#[101, 114, 114, 111, 114, 32]⟩ ++ itoaB ((4 : Nat) : Int) = _
  rw [itoa_small 4 (by omega)]
  rfl
def ansA : List ByteArray := [⟨#[49]⟩, ⟨#[111, 107]⟩, ⟨#[49, 32, 97, 98, 99]⟩, ⟨#[101, 114, 114, 111, 114, 32, 49, 50]⟩, ⟨#[101, 114, 114, 111, 114, 32, 52]⟩]
theorem runT_yes {σ τ : Sto} {x a : ByteArray} {l : List ByteArray} (hx : x.size ≠ 0) (h : lineT qErr compT σ x = (a, τ)) : (runT qErr compT σ (x :: l)).1 = a :: (runT qErr compT τ l).1 := by
  have hne : x ≠ ByteArray.empty := fun e => hx (by rw [e]; rfl)
  simp only [runT, if_neg hne, h]
theorem runT_no {σ : Sto} {l : List ByteArray} : (runT qErr compT σ (⟨#[]⟩ :: l)).1 = (runT qErr compT σ l).1 := by
  have e : (⟨#[]⟩ : ByteArray) = ByteArray.empty := rfl
  simp only [runT]
  rw [if_pos e]
theorem run_A : run0 scrA = ansA := by
  unfold run0
  rw [lines_A]
  show (runT qErr compT kσ _).1 = _
  rw [runT_yes (by decide) a_put, runT_yes (by decide) a_down, runT_yes (by decide) a_get1, runT_yes (by decide) a_no, runT_yes (τ := (lineT qErr compT kσ3 ⟨#[103, 101, 116, 32, 50]⟩).2) (a := ⟨#[101, 114, 114, 111, 114, 32, 52]⟩) (by decide) (by rw [← a_get2])]
  rfl
/-! ### The second script -/
theorem b_gcd (σ : Sto) : lineT qErr compT σ ⟨#[103, 99, 100, 32, 49, 50, 32, 49, 56]⟩ = (⟨#[50, 32, 45, 49, 32, 54, 32, 46]⟩, σ) := by
  have hs : storedT qErr σ cGcd [⟨#[49, 50]⟩, ⟨#[49, 56]⟩] = none := by
    unfold storedT
    rw [if_neg (by decide +kernel), if_neg (by decide +kernel), if_neg (by decide +kernel), if_neg (by decide +kernel), if_neg (by decide +kernel), if_neg (by decide +kernel), if_neg (by decide +kernel), if_neg (by decide +kernel), if_neg (by decide +kernel)]
  have hX : bezX 12 18 = 2 := by
    unfold bezX
    rw [if_neg (by decide)]
    exact Wm.inv_spec (by decide) (by decide)
  have hY : bezY 12 18 = -1 := by
    unfold bezY
    rw [if_neg (by decide), hX]
    decide
  have hc : compT cGcd [⟨#[49, 50]⟩, ⟨#[49, 56]⟩] = .ok (numsB [2, -1, 6]) := by
    unfold compT
    rw [if_pos rfl, t_gcd]
    show Except.ok (numsB [bezX 12 18, bezY 12 18, ((Nat.gcd 12 18 : Nat) : Int)]) = _
    rw [hX, hY]
    rfl
  rw [lineT_co f_gcd hs, hc]
  show (((((ByteArray.empty ++ (itoaB ((2 : Nat) : Int) ++ blank)) ++ (itoaB (-((1 : Nat) : Int)) ++ blank)) ++ (itoaB ((6 : Nat) : Int) ++ blank)) ++ ⟨#[46]⟩ : ByteArray), σ) = _
  rw [itoa_small 2 (by omega), itoa_small 6 (by omega), itoa_neg 1 (by omega) (by omega)]
  rfl
theorem fac12 : Wm.IsFac 12 [(2, 2), (3, 1)] := by
  refine ⟨by decide, fun x hx => ?_, by decide⟩
  have p2 : Wm.Prime 2 := ⟨by omega, fun d hd => by have := Nat.le_of_dvd (by omega) hd; have : d ≠ 0 := (fun e => by subst e; simp at hd); omega⟩
  have p3 : Wm.Prime 3 := ⟨by omega, fun d hd => by
    have h1 := Nat.le_of_dvd (by omega) hd
    have h2 : d ≠ 0 := fun e => by subst e; simp at hd
    have h3 : d ≠ 2 := fun e => by subst e; omega
    omega⟩
  simp only [List.mem_cons, List.mem_nil_iff, or_false] at hx
  rcases hx with rfl | rfl
  · exact ⟨p2, by decide⟩
  · exact ⟨p3, by decide⟩
theorem b_fac (σ : Sto) : lineT qErr compT σ ⟨#[102, 97, 99, 116, 111, 114, 32, 49, 50]⟩ = (⟨#[50, 32, 50, 32, 51, 32, 49, 32, 46]⟩, σ) := by
  have hs : storedT qErr σ cFactor [⟨#[49, 50]⟩] = none := by
    unfold storedT
    rw [if_neg (by decide +kernel), if_neg (by decide +kernel), if_neg (by decide +kernel), if_neg (by decide +kernel), if_neg (by decide +kernel), if_neg (by decide +kernel), if_neg (by decide +kernel), if_neg (by decide +kernel), if_neg (by decide +kernel)]
  have hc : compT cFactor [⟨#[49, 50]⟩] = .ok (numsB [2, 2, 3, 1]) := by
    unfold compT
    rw [if_neg (by decide +kernel), if_pos rfl, t_fac]
    show (if 12 < 1 ∨ 1000000 < 12 then .error 1 else .ok (numsB (facI (facL 12))) : Except Int ByteArray) = _
    rw [if_neg (by decide), facL_eq fac12]
    rfl
  rw [lineT_co f_fac hs, hc]
  show ((((((ByteArray.empty ++ (itoaB ((2 : Nat) : Int) ++ blank)) ++ (itoaB ((2 : Nat) : Int) ++ blank)) ++ (itoaB ((3 : Nat) : Int) ++ blank)) ++ (itoaB ((1 : Nat) : Int) ++ blank)) ++ ⟨#[46]⟩ : ByteArray), σ) = _
  rw [itoa_small 2 (by omega), itoa_small 3 (by omega), itoa_small 1 (by omega)]
  rfl
def ansB : List ByteArray := [⟨#[50, 32, 45, 49, 32, 54, 32, 46]⟩, ⟨#[50, 32, 50, 32, 51, 32, 49, 32, 46]⟩]
theorem run_B : run0 scrB = ansB := by
  unfold run0
  rw [lines_B, runT_yes (by decide) (b_gcd _), runT_no, runT_yes (by decide) (b_fac _)]
  rfl
end Go.Proofs.YtpenkbhljkmliaaGreatDoor

/-
  The walk of wholekeep.DeskFront.
-/
set_option linter.unusedVariables false
set_option linter.unusedSimpArgs false
namespace Go.Proofs.YtpenkbhljkmliaaGreatDoor
open Go.RowKit Go.BigFrame

set_option maxRecDepth 100000 in
set_option maxHeartbeats 1000000 in
theorem equal_strs (A B : Option Addr) (n c d : Nat) (xs : List ByteArray) (w : World) (R : Row w A n 1 (strs xs)) (S : Row w B n 1 (strs xs)) (hn : (n : Int) ≤ 9223372036854775807) :
    Calls Tryz.prog 6 #[.slice A n c, .slice B n d] w fun e w' => e = .returned (.bool true) ∧ ∃ k, w' = w.drewN k := by
  have hx := R.strN
  have HX := hide hx
  have HR := hide R
  have HS := hide S
  clear hx R S
  go_enter Tryz.func6, Tryz.ntmps6
  go_wp2
  go_loopw [13] (fun i wr => ∃ k : Nat, k ≤ n ∧ i = .int .i64 k ∧ ∃ q, wr = w.drewN q) (fun i _ => n - (intOf i).toNat)
  case atStart => exact ⟨0, by omega, rfl, 0, rfl⟩
  case round =>
    obtain ⟨k, hk, rfl, q, rfl⟩ := hrel
    by_cases hlt : k < n
    · obtain ⟨b, o, rfl, hb, c1⟩ := (unhide HR).str (k := k) (by have := unhide HX; omega)
      obtain ⟨b', o', rfl, hb', c2⟩ := (unhide HS).str (k := k) (by have := unhide HX; omega)
      have hk0 : (0 : Int) ≤ (k : Int) := by omega
      have hk1 : (k : Int) < (n : Int) := by omega
      generalize xs.getD k ByteArray.empty = y at *
      go_wp2
      go_quiet (fail)
      go_wp2
      go_roundw
      case rel => exact ⟨k + 1, by omega, by go_num, _, rfl⟩
      case measure => simp [intOf]; omega
    · obtain rfl : k = n := by omega
      go_wp2
      go_ret
      exact ⟨rfl, _, rfl⟩

/-- A script is answered. -/
def Okay (s : ByteArray) : Prop := s.size ≤ 4096 ∧ (Wm.lines s).length ≤ 60
theorem okay_left {a b : ByteArray} (h : Okay (a ++ Wm.nl ++ b)) : Okay a := by
  obtain ⟨h1, h2⟩ := h
  rw [Wm.lines_join, List.length_append] at h2
  rw [ByteArray.size_append, ByteArray.size_append] at h1
  exact ⟨by omega, by omega⟩
theorem ansA_all : ansA.length = 5 := rfl
theorem run_any (s : ByteArray) (hs : s.size < 4294967281) (w : World) (hm : ∃ m : Int, w.cell? ⟨0, 0, none⟩ = some (.int .i64 m)) (HT : PowIs w) :
    Calls Tryz.prog 5 #[.string s] w fun e w' => ((Okay s → ∃ v, e = .returned (.tuple #[v, .int .i64 0]) ∧ w'.ownsRow w.heap.size 9 1 v (run0 s).length (strs (run0 s))) ∧ (¬ Okay s → e = .returned (.tuple #[.slice none 0 0, .int .i64 2]))) ∧ Ext w w' := by
  by_cases h : Okay s
  · exact (run_ok s h.1 h.2 w hm HT).mono fun e w' ⟨h1, h2⟩ => ⟨⟨fun _ => h1, fun hn => absurd h hn⟩, h2⟩
  · have hl : (Wm.lines s).length ≤ 9223372036854775807 := by
      rw [Wm.lines_len]
      have h1 := Wm.lines_len s
      have h2 : Lib.countB s Wm.nl ≤ s.size := Lib.countB_le Wm.nl (by decide) s.size s (Nat.le_refl _)
      omega
    exact (run_large s hs w hm (by unfold Okay at h; omega) hl).mono fun e w' ⟨h1, h2⟩ => ⟨⟨fun hn => absurd hn h, fun _ => h1⟩, h2⟩
theorem okay_A : Okay scrA := ⟨by decide, by rw [lines_A]; decide⟩
theorem okay_B : Okay scrB := ⟨by decide, by rw [lines_B]; decide⟩
theorem Row.takeS {w : World} {A : Option Addr} {n k : Nat} {l : List ByteArray} (R : Row w A n 1 (strs l)) (h : k ≤ n) : Row w A k 1 (strs (l.take k)) := by
  have hl := R.strN
  refine ⟨by rw [strs_length, List.length_take]; omega, fun hk => ?_⟩
  obtain ⟨b, o, hA, hb, hc⟩ := R.2 (by omega)
  refine ⟨b, o, hA, hb, fun j hj => (hc j (by omega)).trans ?_⟩
  rw [strs_get l j (by omega), strs_get (l.take k) j (by rw [List.length_take]; omega)]
  simp [List.getD_eq_getElem?_getD, List.getElem?_take, show j < k by omega]

set_option maxRecDepth 100000 in
set_option maxHeartbeats 2000000 in
theorem deskFront (a b : ByteArray) (ha : a.size ≤ 1048576) (hb : b.size ≤ 1048576) (W : World) (hm : ∃ m : Int, W.cell? ⟨0, 0, none⟩ = some (.int .i64 m)) (HT : PowIs W) :
    Calls Tryz.prog 3 #[.string a, .string b] W fun e w' => e = .returned (.bool true) ∧ Ext W w' := by
  have HR := hide (show ∀ (s : ByteArray) (w : World), s.size < 4294967281 → Ext W w → Calls Tryz.prog 5 #[.string s] w fun e w' => ((Okay s → ∃ v, e = .returned (.tuple #[v, .int .i64 0]) ∧ w'.ownsRow w.heap.size 9 1 v (run0 s).length (strs (run0 s))) ∧ (¬ Okay s → e = .returned (.tuple #[.slice none 0 0, .int .i64 2]))) ∧ Ext w w' from fun s w hs E => by
    obtain ⟨m, hm⟩ := hm
    exact run_any s hs w ⟨m, E.keep hm⟩ (tab_ext HT E))
  have CA : Hid (Calls Tryz.prog 5 #[.string ⟨#[112, 117, 116, 32, 49, 32, 97, 98, 99, 10, 100, 111, 119, 110, 32, 48, 10, 103, 101, 116, 32, 49, 10, 110, 111, 10, 103, 101, 116, 32, 50]⟩] W fun e w' => (∃ v, e = .returned (.tuple #[v, .int .i64 0]) ∧ w'.ownsRow W.heap.size 9 1 v 5 (strs ansA)) ∧ Ext W w') :=
    hide ((unhide HR scrA W (by decide) (Ext.refl _)).mono fun e w' ⟨⟨h1, _⟩, hE⟩ => by
      obtain ⟨v, he, ho⟩ := h1 okay_A
      rw [run_A] at ho
      exact ⟨⟨v, he, ho⟩, hE⟩)
  have hs : (a ++ Wm.nl ++ b).size = a.size + 1 + b.size := by rw [ByteArray.size_append, ByteArray.size_append]; rfl
  have n1 : ¬ 9223372036854775807 < a.size + ({ data := #[10] } : ByteArray).size := by show ¬ 9223372036854775807 < a.size + 1; omega
  have n2 : ¬ 9223372036854775807 < (a ++ ({ data := #[10] } : ByteArray)).size + b.size := by rw [ByteArray.size_append]; show ¬ 9223372036854775807 < a.size + 1 + b.size; omega
  obtain ⟨s, hsd⟩ : ∃ s, s = a ++ Wm.nl ++ b := ⟨_, rfl⟩
  have HSD := hide (show s = a ++ ({ data := #[10] } : ByteArray) ++ b from hsd)
  have HOK := hide (show Okay s → Okay a from fun h => by rw [hsd] at h; exact okay_left h)
  have HFR := hide (show run0 a = (run0 s).take (run0 a).length from by rw [hsd]; exact run_front qErr compT (Sto.new 4 2 3 3) a b)
  have CB := hide (fun w E => unhide HR s w (by rw [hsd, hs]; omega) E)
  have CC := hide (fun w E => unhide HR a w (by omega) E)
  clear hs hsd hm HT HR ha hb
  go_enter Tryz.func3, Tryz.ntmps3
  go_wp2_with fail
  refine (unhide CA).mono ?_
  rintro e w1 ⟨⟨v1, rfl, H1⟩, E1⟩
  obtain ⟨A1, c1, rfl, R1, -, -, -⟩ := row_of_own H1
  have HE1 := hide E1
  have CE := hide (equal_strs A1 (some ⟨w1.heap.size, 0, none⟩) 5 c1 5 ansA (w1.alloc (.cells #[.string ⟨#[49]⟩, .string ⟨#[111, 107]⟩, .string ⟨#[49, 32, 97, 98, 99]⟩, .string ⟨#[101, 114, 114, 111, 114, 32, 49, 50]⟩, .string ⟨#[101, 114, 114, 111, 114, 32, 52]⟩] 9)) (R1.keep ((Ext.refl _).alloc _)) (row_new _ _ _ 5 1 rfl) (by decide))
  clear R1 H1 E1 CA
  go_wp2_with fail
  refine (unhide CE).mono ?_
  rintro e w2 ⟨rfl, q2, hw2⟩
  have HE2 := hide ((unhide HE1).trans (show Ext w1 w2 by rw [hw2]; exact ((Ext.refl _).alloc _).drewN _))
  clear hw2 CE HE1
  go_wp2_with fail
  rw [← unhide HSD]
  by_cases hO : Okay s
  · refine (unhide CB _ (unhide HE2)).mono ?_
    rintro e w3 ⟨⟨h1, -⟩, E3⟩
    obtain ⟨v3, rfl, H3⟩ := h1 hO
    obtain ⟨A3, c3, rfl, R3, hc3, hcm3, -⟩ := row_of_own H3
    have HR3 := hide R3
    have HE3 := hide ((unhide HE2).trans E3)
    clear h1 H3 E3 R3
    go_wp2_with fail
    refine (unhide CC _ (unhide HE3)).mono ?_
    rintro e w4 ⟨⟨h1, -⟩, E4⟩
    obtain ⟨v4, rfl, H4⟩ := h1 (unhide HOK hO)
    obtain ⟨A4, c4, rfl, R4, hc4, hcm4, -⟩ := row_of_own H4
    have hle : (run0 a).length ≤ (run0 s).length := by
      have h := congrArg List.length (unhide HFR)
      rw [List.length_take] at h
      omega
    have HR4 := hide R4
    have HR34 := hide ((unhide HR3).keep E4)
    have HE4 := hide ((unhide HE3).trans E4)
    clear h1 H4 E4 R4 HR3
    have HT := hide (show Row w4 A3 (run0 a).length 1 (strs (run0 a)) from by
      have h := (unhide HR34).takeS hle
      rwa [← unhide HFR] at h)
    have h63 : ((run0 a).length : Int) ≤ 9223372036854775807 := by unfold maxLen at hcm4; omega
    have CE := hide (equal_strs A4 A3 (run0 a).length c4 c3 (run0 a) w4 (unhide HR4) (unhide HT) h63)
    clear HR34 HR4 HT
    generalize (run0 s).length = n3 at *
    generalize (run0 a).length = n4 at *
    have hleI : (n4 : Int) ≤ (n3 : Int) := by omega
    go_wp2_with fail
    refine (unhide CE).mono ?_
    rintro e w5 ⟨rfl, q5, hw5⟩
    have HE5 := hide ((unhide HE4).trans (show Ext w4 w5 by rw [hw5]; exact (Ext.refl _).drewN _))
    clear hw5
    go_wp2
    go_ret
    exact ⟨rfl, unhide HE5⟩
  · refine (unhide CB _ (unhide HE2)).mono ?_
    rintro e w3 ⟨⟨-, h1⟩, E3⟩
    obtain rfl := h1 hO
    have HE3 := hide ((unhide HE2).trans E3)
    clear h1 E3
    by_cases hOa : Okay a
    · go_wp2_with fail
      refine (unhide CC _ (unhide HE3)).mono ?_
      rintro e w4 ⟨⟨h1, -⟩, E4⟩
      obtain ⟨v4, rfl, H4⟩ := h1 hOa
      have HE4 := hide ((unhide HE3).trans E4)
      clear h1 H4 E4
      go_wp2
      go_ret
      exact ⟨rfl, unhide HE4⟩
    · go_wp2_with fail
      refine (unhide CC _ (unhide HE3)).mono ?_
      rintro e w4 ⟨⟨-, h1⟩, E4⟩
      obtain rfl := h1 hOa
      have HE4 := hide ((unhide HE3).trans E4)
      clear h1 E4
      go_wp2
      go_ret
      exact ⟨rfl, unhide HE4⟩
end Go.Proofs.YtpenkbhljkmliaaGreatDoor
