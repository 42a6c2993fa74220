/-
  The contract of matrix.Solve.
-/
import Derived.Test.YtifkphlbjjdigaaMxUndoneW
import Derived.Test.YtifkphlbjjdigaaMat7
set_option linter.unusedVariables false
set_option linter.unusedSimpArgs false
namespace Go.Proofs.Ytifkphlbjjdigaa
open Go.RowKit Go.BigFrame Wm.Fld

def besN (l : Nat) (M : Nat → Nat → Nat) (lb : List Nat) : Nat → Nat → Nat := fun i j => if j < l then M i j else lb.getD i 0
theorem besN_m8 (l : Nat) (M : Nat → Nat → Nat) (lb : List Nat) : Wm.m8m (besN l M lb) = beside l (Wm.m8m M) (fun i => Wm.m8 (lb.getD i 0)) := by
  funext i j
  show Wm.m8 (besN l M lb i j) = _
  unfold besN beside
  by_cases c : j < l
  · rw [if_pos c, if_pos c]; rfl
  · rw [if_neg c, if_neg c]
theorem besN_lt {l : Nat} {M : Nat → Nat → Nat} {lb : List Nat} (h : ∀ i j, M i j < 256) (hb : ∀ i, lb.getD i 0 < 256) (i j : Nat) : besN l M lb i j < 256 := by
  unfold besN
  split
  · exact h i j
  · exact hb i

theorem nosol {n l : Nat} {A M : Nat → Nat → Wm.B8} {b : Nat → Wm.B8} {pv : List Nat} {d : Wm.B8} (E : Ech n (l + 1) (beside l A b) M pv l d) {i : Nat} (hi : pv.length ≤ i) (hin : i < n) (hne : M i l ≠ z) (u : Nat → Wm.B8)
    (h : ∀ i, i < n → sm (fun j => ml (A i j) (u j)) l = b i) : False := by
  obtain ⟨P, Q, hI, hP, hQ⟩ := E.rw_
  have hrow : ∀ j, j < l → sm (fun k => ml (P i k) (A k j)) n = z := fun j hj => by
    have h1 := hP i j hin (by omega)
    rw [E.none i j hi hin hj] at h1
    rw [← h1]
    exact sm_congr n fun k _ => by
      show _ = ml (P i k) (beside l A b k j)
      unfold beside; rw [if_pos hj]
  have hl : sm (fun k => ml (P i k) (b k)) n = M i l := by
    rw [← hP i l hin (by omega)]
    exact sm_congr n fun k _ => by
      show _ = ml (P i k) (beside l A b k l)
      unfold beside; rw [if_neg (by omega)]
  apply hne
  rw [← hl]
  have e1 : sm (fun k => ml (P i k) (b k)) n = sm (fun k => sm (fun j => ml (ml (P i k) (A k j)) (u j)) l) n := sm_congr n fun k hk => by
    rw [← h k hk, ← sm_ml]
    exact sm_congr l fun j _ => (ml_assoc _ _ _).symm
  rw [e1, sm_swap]
  exact sm_z l fun j hj => by rw [sm_ml_right, hrow j hj, z_ml]
def solErr (n : Nat) (ln : Nat → Nat) (m : Nat) : Int := if chkM n ln ≠ 0 then chkM n ln else if m ≠ n then 3 else 0
def SolOut (w' : World) (n : Nat) (ln : Nat → Nat) (M : Nat → Nat → Nat) (m : Nat) (lb : List Nat) (e : Ending) : Prop :=
  (solErr n ln m ≠ 0 ∧ e = .returned (.tuple #[.slice none 0 0, .int .i64 (solErr n ln m)])) ∨
  (solErr n ln m = 0 ∧ chkM n ln = 0 ∧ m = n ∧
    ((e = .returned (.tuple #[.slice none 0 0, .int .i64 4]) ∧ (∀ r s, Rk n (ln 0) r (Wm.m8m M) → Rk n (ln 0 + 1) s (Wm.m8m (besN (ln 0) M lb)) → s ≠ r) ∧ (∀ u : Nat → Wm.B8, (∀ i, i < n → sm (fun j => ml (Wm.m8m M i j) (u j)) (ln 0) = Wm.m8 (lb.getD i 0)) → False)) ∨
     (∃ (g : Nat) (f : Nat → Nat), e = .returned (.tuple #[.slice (some ⟨g, 0, none⟩) (ln 0) (ln 0), .int .i64 0]) ∧ g < w'.heap.size ∧ (∀ j : Nat, f j < 256) ∧ (∀ j, j < ln 0 → w'.cell? ⟨g, j, none⟩ = some (.int .u8 (f j : Int))) ∧
       ∀ i, i < n → sm (fun j => ml (Wm.m8m M i j) (Wm.m8 (f j))) (ln 0) = Wm.m8 (lb.getD i 0))))

/-- The answer on the way. -/
structure Ans (w0 W : World) (g x l : Nat) (pv : List Nat) (R : Nat → Nat → Nat) (f : Nat → Nat) : Prop where
  ext : Ext w0 W
  g_lo : w0.heap.size ≤ g
  g_hi : g < W.heap.size
  cell : ∀ j, j < l → W.cell? ⟨g, j, none⟩ = some (.int .u8 (f j : Int))
  cell_f : ∀ j, j < l → W.frozen? ⟨g, j, none⟩ = false
  lt : ∀ j, f j < 256
  at_ : ∀ t, t < x → t < pv.length → f (pv.getD t 0) = R t l
  no : ∀ j, (∀ t, t < x → t < pv.length → pv.getD t 0 ≠ j) → f j = 0
  zero : ∀ i, i < x → pv.length ≤ i → R i l = 0
theorem Ans.put {w0 W : World} {g x l : Nat} {pv : List Nat} {R : Nat → Nat → Nat} {f : Nat → Nat} (T : Ans w0 W g x l pv R f) (hx : x < pv.length) (hl : pv.getD x 0 < l) (hinj : ∀ t, t < x → pv.getD t 0 ≠ pv.getD x 0) (hR : R x l < 256) :
    Ans w0 (W.setCell ⟨g, pv.getD x 0, none⟩ (.int .u8 (R x l : Int))) g (x + 1) l pv R (upf f (pv.getD x 0) (R x l)) where
  ext := T.ext.setCell T.g_lo _
  g_lo := T.g_lo
  g_hi := by simpa using T.g_hi
  cell j hj := by
    by_cases c : j = pv.getD x 0
    · rw [c, upf_same]; exact World.cell?_setCell_same' _ _ _ (by rw [T.cell _ hl]; rfl)
    · rw [upf_ne _ _ c, cell_far _ _ c]; exact T.cell j hj
  cell_f j hj := by rw [World.frozen?_setCell]; exact T.cell_f j hj
  lt j := by
    by_cases c : j = pv.getD x 0
    · rw [c, upf_same]; exact hR
    · rw [upf_ne _ _ c]; exact T.lt j
  at_ t ht htl := by
    by_cases c : t = x
    · rw [c, upf_same]
    · rw [upf_ne _ _ (hinj t (by omega))]; exact T.at_ t (by omega) htl
  no j h := by
    rw [upf_ne _ _ (fun e => h x (by omega) hx e.symm)]
    exact T.no j fun t ht htl => h t (by omega) htl
  zero i hi h := T.zero i (by omega) h
theorem Ans.skip {w0 W : World} {g x l : Nat} {pv : List Nat} {R : Nat → Nat → Nat} {f : Nat → Nat} (T : Ans w0 W g x l pv R f) (hx : pv.length ≤ x) (h0 : R x l = 0) : Ans w0 W g (x + 1) l pv R f :=
  { T with
    at_ := fun t _ htl => T.at_ t (by omega) htl
    no := fun j h => T.no j fun t ht htl => h t (by omega) htl
    zero := fun i hi h => by
      by_cases c : i = x
      · rw [c]; exact h0
      · exact T.zero i (by omega) h }
theorem Ans.keep {w0 W W' : World} {g x l : Nat} {pv : List Nat} {R : Nat → Nat → Nat} {f : Nat → Nat} (T : Ans w0 W g x l pv R f) (E : Ext W W') : Ans w0 W' g x l pv R f :=
  { T with
    ext := T.ext.trans E
    g_hi := Nat.lt_of_lt_of_le T.g_hi E.size
    cell := fun j hj => (E.cell (p := ⟨g, j, none⟩) T.g_hi).trans (T.cell j hj)
    cell_f := fun j hj => (E.frozen (p := ⟨g, j, none⟩) T.g_hi).trans (T.cell_f j hj) }
theorem Ans.start (w : World) (l : Nat) (pv : List Nat) (R : Nat → Nat → Nat) (hl : l ≤ 1000) : Ans w (w.alloc (.cells (madeCells #[.int .u8 0] l) 5)) w.heap.size 0 l pv R (fun _ => 0) where
  ext := (Ext.refl w).alloc _
  g_lo := Nat.le_refl _
  g_hi := by simp
  cell j hj := by
    have MM := Made.make (w := w) (base := w.heap.size) (e := 5) (.int .u8 0) l (Nat.le_refl _) (by omega)
    rw [MM.cell hj, List.getD_eq_getElem?_getD]; simp [hj]
  cell_f j _ := by
    have MM := Made.make (w := w) (base := w.heap.size) (e := 5) (.int .u8 0) l (Nat.le_refl _) (by omega)
    exact MM.frozen j
  lt _ := by omega
  at_ t h := absurd h (by omega)
  no _ _ := rfl
  zero i h := absurd h (by omega)
theorem Ans.answer {w0 W : World} {g n l : Nat} {pv : List Nat} {R A : Nat → Nat → Nat} {f : Nat → Nat} {d : Wm.B8} {B : Nat → Nat → Wm.B8} (T : Ans w0 W g n l pv R f) (E : Ech n (l + 1) B (Wm.m8m R) pv l d) (j : Nat) : Wm.m8 (f j) = answer pv (Wm.m8m R) l j := by
  have hlen := E.len
  by_cases h : ∃ t, t < pv.length ∧ pv.getD t 0 = j
  · obtain ⟨t, ht, rfl⟩ := h
    rw [answer_at E l ht, T.at_ t (by omega) ht]; rfl
  · have h2 : ∀ t, t < pv.length → pv.getD t 0 ≠ j := fun t ht e => h ⟨t, ht, e⟩
    rw [answer_no _ _ h2, T.no j fun t _ ht => h2 t ht]; rfl

--{
set_option maxRecDepth 100000 in
set_option maxHeartbeats 4000000 in
theorem Solve_any (A : Option Addr) (n c : Nat) (ra : Nat → Option Addr) (ln cp : Nat → Nat) (M : Nat → Nat → Nat) (B : Option Addr) (m c2 : Nat) (lb : List Nat) (w : World) (T : Tab w A n ra ln cp M) (hn : n ≤ 4611686018427387904)
    (RB : Row w B m 1 (nats .u8 lb)) (hmc : m ≤ c2) (hc63 : c2 ≤ 9223372036854775807) (hb8 : ∀ x ∈ lb, x < 256) :
    Calls Try.prog 22 #[.slice A n c, .slice B m c2] w fun e w' => SolOut w' n ln M m lb e ∧ Ext w w' := by
  have CD := hide (MCheck_any A n c ra ln cp M w T hn)
  have HT := hide T
  have HL8 := hide (getD_lt8 hb8)
  have HLB := hide RB.numN
  clear T hb8
  by_cases hck : chkM n ln = 0
  · by_cases hmn : m = n
    · subst hmn
      obtain ⟨a1, a2, a3, a4, a5⟩ := chkM_ok hck
      obtain ⟨l, hl⟩ : ∃ l, l = ln 0 := ⟨_, rfl⟩
      have HL := hide hl
      rw [← hl] at a3 a4 a5
      have HCK := hide hck
      have HLN := hide (show ∀ i, i < m → ln i = l from a5)
      obtain ⟨ba, oa, rfl, hba, hca⟩ := (unhide HT).hd (by omega)
      have HCA := hide (show ∀ i, i < m → w.cell? ⟨ba, oa + i, none⟩ = some (.slice (ra i) l (cp i)) from fun i hi => by rw [hca i hi, unhide HLN i hi])
      have hc0 := hca 0 (by omega)
      rw [Nat.add_zero, ← hl] at hc0
      have HC0 := hide hc0
      obtain ⟨bb, ob, rfl, hbb, hbc⟩ := RB.2 (by omega)
      have HBB := hide hbb
      have HBC := hide (show ∀ i, i < m → w.cell? ⟨bb, ob + i, none⟩ = some (.int .u8 (lb.getD i 0 : Int)) from fun i hi => by rw [hbc i (by omega), nats_get _ _ _ (by rw [unhide HLB]; exact hi)])
      have HSE := hide (show solErr m ln m = 0 from by unfold solErr; rw [if_neg (by rw [hck]; decide), if_neg (by simp)])
      have hnnB : ((m : Int) != (m : Int)) = false := by simp
      have hmk : ∀ w : World, (Instr.makeSlice 26 (.int .i64 (l : Int)) (.int .i64 (l : Int))).run Try.prog w = .ok (.slice (some ⟨w.heap.size, 0, none⟩) l l) (w.alloc (.cells (madeCells #[.int .u8 0] l) 5)) := fun w => by
        have := make_run byteM l l (Nat.le_refl _) (by omega) (by omega) w
        rw [Nat.mul_one] at this
        exact this
      rw [hck] at CD
      clear a5 hca hck hl hbc RB hbb
      have hcn := unhide HC0
      clear HC0
      go_enter Try.func22, Try.ntmps22
      go_wp2_with fail
      refine (unhide CD).mono ?_
      rintro e w1 ⟨rfl, E1⟩
      have HE1 := hide E1
      have hcn1 := E1.keep hcn
      clear CD E1 hcn
      generalize ra 0 = ra0 at *
      generalize cp 0 = cp0 at *
      go_wp2
      go_loopw [8, 33] (fun v i wr => ∃ x : Nat, x ≤ m ∧ i = .int .i64 x ∧ ∃ bl cq : Nat → Nat, Hid (Bld 26 w1 wr v x bl cq (l + 1) (besN l M lb))) (fun _ i _ => m - (intOf i).toNat)
      case atStart => exact ⟨0, Nat.zero_le _, rfl, _, _, hide (Bld.nil 26 w1 (fun _ => 0) (fun _ => 0) (l + 1) (besN l M lb))⟩
      case round =>
        obtain ⟨x, hx, rfl, bl, cq, HB⟩ := hrel
        by_cases hlt : x < m
        · obtain ⟨wa, hwa⟩ : ∃ wa, wa = wr := ⟨_, rfl⟩
          subst hwa
          have HEA := hide ((unhide HE1).trans (unhide HB).ext)
          have hcx := (unhide HEA).keep (unhide HCA x hlt)
          have RX := ((unhide HT).keep (unhide HEA)).rowN hlt
          obtain ⟨bx, ox, hrx, -, -⟩ := (unhide HT).row x hlt (by rw [unhide HLN x hlt]; omega)
          rw [unhide HLN x hlt, hrx] at RX
          rw [hrx] at hcx
          have hcp := (unhide HT).cap x hlt
          rw [unhide HLN x hlt] at hcp
          obtain ⟨Y, hY⟩ : ∃ Y, Y = lb.getD x 0 := ⟨_, rfl⟩
          have HY := hide hY
          have hbc : wa.cell? ⟨bb, ob + x, none⟩ = some (.int .u8 (Y : Int)) := by rw [hY]; exact (unhide HEA).keep (unhide HBC x hlt)
          have RU0 : Row wa (some ⟨bb, ob + x, none⟩) 1 1 (nats .u8 [Y]) := ⟨rfl, fun _ => ⟨_, _, rfl, Nat.lt_of_lt_of_le (unhide HBB) (unhide HEA).size, fun j hj => by
            obtain rfl : j = 0 := by omega
            rw [Nat.add_zero, hbc]; rfl⟩⟩
          obtain ⟨w2, hw2⟩ : ∃ w2, w2 = wa := ⟨_, rfl⟩
          have EW2 : Ext wa w2 := by rw [hw2]; exact Ext.refl wa
          have RU : Row w2 (some ⟨bb, ob + x, none⟩) 1 1 (nats .u8 [Y]) := RU0.keep EW2
          have hsz2 : w2.heap.size = wa.heap.size := by rw [hw2]
          generalize cp x = cx at *
          obtain ⟨w3, hw3⟩ : ∃ w3, w3 = w2.alloc (.cells #[.slice (some ⟨bx, ox, none⟩) l cx, .slice (some ⟨bb, ob + x, none⟩) 1 (c2 - x)] 26) := ⟨_, rfl⟩
          have EW3 : Ext w2 w3 := by rw [hw3]; exact (Ext.refl w2).alloc _
          have hc0 : w3.cell? ⟨w2.heap.size, 0, none⟩ = some (.slice (some ⟨bx, ox, none⟩) l cx) := by rw [hw3]; simp
          have hc1 : w3.cell? ⟨w2.heap.size, 1, none⟩ = some (.slice (some ⟨bb, ob + x, none⟩) 1 (c2 - x)) := by rw [hw3]; simp
          have hg3 : w2.heap.size < w3.heap.size := by rw [hw3]; simp
          have CC := hide (concat_u8 w2.heap.size l cx 1 (c2 - x) (some ⟨bx, ox, none⟩) (some ⟨bb, ob + x, none⟩) _ _ w3 hg3 hc0 hc1 (RX.keep (EW2.trans EW3)) (RU.keep EW3) (fun u hu => by
            simp only [nats, List.mem_map] at hu
            obtain ⟨y, -, rfl⟩ := hu
            rfl) (fun u hu => by
            simp only [nats, List.mem_map] at hu
            obtain ⟨y, -, rfl⟩ := hu
            rfl) (fun h => by cases h) (fun h => by cases h) (by omega) (by omega))
          have HE23 := hide (EW2.trans EW3)
          rw [hw3, hw2] at CC HE23
          clear RX hrx RU RU0 hc0 hc1 hg3 EW3 EW2 hw3 hw2 hsz2 hbc hY
          have hxx : (x : Int) + 1 ≤ (c2 : Int) := by omega
          go_wp2_with fail
          refine (unhide CC).mono ?_
          rintro e wb ⟨⟨u, rfl, own⟩, E2⟩
          have hgx0 := (unhide HE23).size
          obtain ⟨gx, cap, hu, hgx1, hgx2, hlc, hcm, hcell⟩ := row_open own (by omega)
          subst hu
          have hgx3 : wa.heap.size ≤ gx := by omega
          have hfz : ∀ j, wb.frozen? ⟨gx, j, none⟩ = false := fun j => by
            rcases own.2 with ⟨h, -⟩ | ⟨q, cp, cur, h, -, hh, -⟩
            · cases h
            · injection h with h
              simp only [Option.some.injEq, Addr.mk.injEq, and_true] at h
              subst h
              simp [World.frozen?, hh]
          have hrow : ∀ j, j < l + 1 → wb.cell? ⟨gx, j, none⟩ = some (.int .u8 (besN l M lb x j : Int)) ∧ wb.frozen? ⟨gx, j, none⟩ = false := fun j hj => by
            refine ⟨?_, hfz j⟩
            rw [hcell j (by omega)]
            unfold besN
            by_cases cc : j < l
            · rw [if_pos cc, List.getElem?_append_left (by simpa [nats] using cc), nats_get _ _ _ (by simpa using cc)]
              simp [cc]
            · obtain rfl : l = j := by omega
              rw [if_neg cc, List.getElem?_append_right (by simp [nats])]
              rw [show (nats IntKind.u8 ((List.range l).map (M x))).length = l from by simp [nats], Nat.sub_self, ← unhide HY]
              rfl
          have EN := ((unhide HE23).trans E2).alloc (.cells #[.slice (some ⟨gx, 0, none⟩) (l + 1) cap] 26)
          have HEN := hide EN
          have hrow2 : ∀ j, j < l + 1 → (wb.alloc (.cells #[.slice (some ⟨gx, 0, none⟩) (l + 1) cap] 26)).cell? ⟨gx, j, none⟩ = some (.int .u8 (besN l M lb x j : Int)) ∧ (wb.alloc (.cells #[.slice (some ⟨gx, 0, none⟩) (l + 1) cap] 26)).frozen? ⟨gx, j, none⟩ = false := fun j hj => by
            have EE := (Ext.refl wb).alloc (.cells #[.slice (some ⟨gx, 0, none⟩) (l + 1) cap] 26)
            exact ⟨(EE.cell (p := ⟨gx, j, none⟩) hgx2).trans (hrow j hj).1, (EE.frozen (p := ⟨gx, j, none⟩) hgx2).trans (hrow j hj).2⟩
          have HRW := hide hrow2
          have HG2 := hide (show gx < (wb.alloc (.cells #[.slice (some ⟨gx, 0, none⟩) (l + 1) cap] 26)).heap.size from by simp; omega)
          have HOW := hide ((unhide HB).keep EN).own
          have HBD := hide (show (x + 1) * 24 ≤ 140737488355328 ∧ x + 1 ≤ 9223372036854775807 by omega)
          have HBS := hide (show w1.heap.size ≤ (wb.alloc (.cells #[.slice (some ⟨gx, 0, none⟩) (l + 1) cap] 26)).heap.size from ((unhide HB).ext.trans EN).size)
          have HONE := hide (show ([.slice (some ⟨gx, 0, none⟩) (l + 1) cap] : List Value).all (fun u => u.oneCell') = true from by simp [Value.oneCell'])
          have HRN := hide (row_new wb #[.slice (some ⟨gx, 0, none⟩) (l + 1) cap] 26 1 1 rfl)
          have HCAP := hide (show l + 1 ≤ cap ∧ cap ≤ 9223372036854775807 from ⟨hlc, by unfold maxLen at hcm; exact hcm⟩)
          have HGX := hide hgx3
          clear own hcell hfz hrow hrow2 EN E2 hcm hlc hgx2 hgx1 hgx0 hgx3 CC HE23
          obtain ⟨nn, hnn⟩ : ∃ nn, nn = l + 1 := ⟨_, rfl⟩
          have HNN := hide hnn
          rw [← hnn] at HB HRW HG2 HOW HBS HONE HRN HCAP HEN ⊢
          clear hnn
          go_wp2_with (at_builtin; refine stop ?_)
          unfold Stop
          refine wpList_app_any rfl _ _ 22 (by rfl) 26 rowM w1.heap.size _ x _ (by rfl) (unhide HOW) (some ⟨wb.heap.size, 0, none⟩) 1 1 [.slice (some ⟨gx, 0, none⟩) nn cap] (by rfl) (unhide HRN) (unhide HONE) (unhide HBD) (unhide HBS) ?_
          intro v' w6 hown6 hg6 hat6
          have HBN := hide ((unhide HB).add (unhide HEN) (b := gx) (c := cap) (f := besN l M lb x) (unhide HGX) (unhide HG2) (unhide HCAP) (unhide HRW) hown6 hg6 (by
            rcases hat6 with h | h
            · exact .inl h
            · exact .inr ⟨_, h, Nat.le_refl _⟩))
          have HBN2 := hide ((unhide HBN).congr (M' := besN l M lb) fun i j hi hj => by
            by_cases c : i = x
            · subst c; rw [upf_same]
            · rw [upf_ne _ _ c])
          clear hown6 hg6 hat6 HBN
          go_wp2
          go_roundw
          case rel => exact ⟨x + 1, by omega, by go_num, _, _, by rw [← unhide HNN]; exact HBN2⟩
          case measure => simp [intOf]; omega
        · obtain rfl : m = x := by omega
          obtain ⟨g, cg, rfl, hcg, TB⟩ := (unhide HB).done (by omega) (besN_lt (unhide HT).lt (unhide HL8))
          have CR := hide (reduced_ok (some ⟨g, 0, none⟩) m cg l (l + 1) _ _ _ _ wr TB.tab a1 (by omega) (by omega) (by omega) (fun _ _ => rfl) (by omega))
          have HE2 := hide ((unhide HE1).trans (unhide HB).ext)
          clear TB HB
          go_wp2_with fail
          refine (unhide CR).mono ?_
          rintro e w5 ⟨⟨g5, cg5, bl5, cp5, pv, ps, dd, R, rfl, hc5, hc5b, hdd, T5, own, hech⟩, E5⟩
          have HE5 := hide ((unhide HE2).trans E5)
          have HEC := hide hech
          have HT5 := hide T5
          have hRlt := T5.lt
          have HRL := hide hRlt
          obtain ⟨PB, pc, hpv, RP, hpc, hpm, -⟩ := row_of_own own
          subst hpv
          have HRP := hide RP
          have hpl := hech.len
          have HA0 := hide (Ans.start w5 l ps R (by omega))
          have hpcI : ps.length ≤ pc := hpc
          clear T5 hech CR E5 own RP hRlt
          obtain ⟨pn, hpn⟩ : ∃ pn, pn = ps.length := ⟨_, rfl⟩
          have HPN := hide hpn
          rw [← hpn] at hpl hpc hpcI HRP ⊢
          clear hpn
          go_wp2
          go_loopw [61] (fun i wz => ∃ x : Nat, x ≤ m ∧ i = .int .i64 x ∧ ∃ f : Nat → Nat, Hid (Ans w5 wz w5.heap.size x l ps R f)) (fun i _ => m - (intOf i).toNat)
          case atStart => exact ⟨0, Nat.zero_le _, rfl, _, HA0⟩
          case round =>
            obtain ⟨x, hx, rfl, f, HA⟩ := hrel
            by_cases hlt : x < m
            · have HT6 := hide ((unhide HT5).keep (unhide HA).ext)
              have hcx := (unhide HT6).hd x hlt
              have hcp := (unhide HT6).cap x hlt
              have hcl := (unhide HT6).cell x l hlt (by omega)
              obtain ⟨Z, hZ⟩ : ∃ Z, Z = R x l := ⟨_, rfl⟩
              have HZ := hide hZ
              have hZ8 : Z < 256 := by rw [hZ]; exact unhide HRL x l
              rw [← hZ] at hcl
              clear hZ
              have hl1 : l < l + 1 := by omega
              generalize bl5 x = bx at *
              generalize cp5 x = cx at *
              by_cases hxp : x < pn
              · obtain ⟨gp, op, rfl, hgp, hcel⟩ := ((unhide HRP).keep (unhide HA).ext).2 (by omega)
                have hpx := hcel x (by omega)
                rw [nats_get _ _ _ (by rw [← unhide HPN]; exact hxp)] at hpx
                have hplt := (unhide HEC).lt x (by rw [← unhide HPN]; exact hxp)
                have hasc := (unhide HEC).asc
                have HN := hide ((unhide HA).put (x := x) (by rw [← unhide HPN]; exact hxp) hplt (fun t ht e => by have := hasc t x ht (by rw [← unhide HPN]; exact hxp); omega) (unhide HRL x l))
                rw [← unhide HZ] at HN
                have hoc := (unhide HA).cell (ps.getD x 0) hplt
                have hof := (unhide HA).cell_f (ps.getD x 0) hplt
                generalize ps.getD x 0 = P at *
                have hxpI : (x : Int) < (pn : Int) := by omega
                have hl1I : (l : Int) < (l : Int) + 1 := by omega
                have hl0I : (0 : Int) ≤ (l : Int) := by omega
                have hPI : (P : Int) < (l : Int) := by omega
                have hP0I : (0 : Int) ≤ (P : Int) := by omega
                clear hcel hasc
                go_wp2
                apply share
                · intro H
                  go_region_law (fail)
                  all_goals exact H
                · have HN2 := hide ((unhide HN).keep (Ext.refl _).drew)
                  go_wp2
                  go_roundw
                  case rel => exact ⟨x + 1, by omega, by go_num, _, HN2⟩
                  case measure => simp [intOf]; omega
              · have hxpI : ¬ (x : Int) < (pn : Int) := by omega
                by_cases hz0 : Z = 0
                · have HN := hide ((unhide HA).skip (by rw [← unhide HPN]; omega) (by rw [← unhide HZ]; exact hz0))
                  have hzB : ((Z : Int) != 0) = false := by simp [hz0]
                  go_wp2
                  go_roundw
                  case rel => exact ⟨x + 1, by omega, by go_num, _, HN⟩
                  case measure => simp [intOf]; omega
                · have hzB : ((Z : Int) != 0) = true := by rw [bne_iff_ne]; omega
                  have HNO := hide (fun (r s : Nat) (hr : Rk m l r (Wm.m8m M)) (hs : Rk m (l + 1) s (Wm.m8m (besN l M lb))) => show s ≠ r from by
                    have he := unhide HEC
                    rw [besN_m8] at he hs
                    refine he.beside hr hs (i := x) (by rw [← unhide HPN]; omega) hlt (fun e => hz0 ?_) Wm.b8_two
                    exact Wm.m8_inj hZ8 (show (0 : Nat) < 256 by omega) (by rw [unhide HZ]; exact e))
                  have HNU := hide (fun (u : Nat → Wm.B8) (hu : ∀ i, i < m → sm (fun j => ml (Wm.m8m M i j) (u j)) l = Wm.m8 (lb.getD i 0)) => show False from by
                    have he := unhide HEC
                    rw [besN_m8] at he
                    refine nosol he (i := x) (by rw [← unhide HPN]; omega) hlt (fun e => hz0 ?_) u hu
                    exact Wm.m8_inj hZ8 (show (0 : Nat) < 256 by omega) (by rw [unhide HZ]; exact e))
                  have HE6 := hide ((unhide HE5).trans (unhide HA).ext)
                  go_wp2
                  go_ret2
                  refine ⟨.inr ⟨unhide HSE, unhide HCK, rfl, .inl ⟨rfl, ?_, ?_⟩⟩, unhide HE6⟩
                  · rw [← unhide HL]; exact unhide HNO
                  · rw [← unhide HL]; exact unhide HNU
            · obtain rfl : m = x := by omega
              have HE6 := hide ((unhide HE5).trans (unhide HA).ext)
              have HF := hide (show ∀ i, i < m → sm (fun j => ml (Wm.m8m M i j) (Wm.m8 (f j))) l = Wm.m8 (lb.getD i 0) from fun i hi => by
                have he := unhide HEC
                have ha := fun j => (unhide HA).answer (A := R) he j
                rw [besN_m8] at he
                rw [← he.solves (fun i h1 h2 => by
                  show Wm.m8 (R i l) = z
                  rw [(unhide HA).zero i h2 h1]; rfl) i hi]
                exact sm_congr l fun j _ => by rw [ha j])
              go_wp2
              go_ret2
              refine ⟨.inr ⟨unhide HSE, unhide HCK, rfl, .inr ⟨w5.heap.size, f, by rw [← unhide HL]; rfl, (unhide HA).g_hi, (unhide HA).lt, ?_, ?_⟩⟩, unhide HE6⟩
              · rw [← unhide HL]; exact (unhide HA).cell
              · rw [← unhide HL]; exact unhide HF
    · have hse : solErr n ln m = 3 := by unfold solErr; rw [if_neg (by rw [hck]; decide), if_pos hmn]
      have HO := hide (fun (W : World) => show SolOut W n ln M m lb (.returned (.tuple #[.slice none 0 0, .int .i64 3])) from .inl ⟨by rw [hse]; decide, by rw [hse]⟩)
      have hnB : ((m : Int) != (n : Int)) = true := by rw [bne_iff_ne]; omega
      rw [hck] at CD
      go_enter Try.func22, Try.ntmps22
      go_wp2_with fail
      refine (unhide CD).mono ?_
      rintro e w1 ⟨rfl, E1⟩
      have HE1 := hide E1
      clear CD E1 hse
      go_wp2
      go_ret2
      exact ⟨unhide HO _, unhide HE1⟩
  · have hse : solErr n ln m = chkM n ln := by unfold solErr; rw [if_pos hck]
    have HO := hide (fun (W : World) => show SolOut W n ln M m lb (.returned (.tuple #[.slice none 0 0, .int .i64 (chkM n ln)])) from .inl ⟨by rw [hse]; exact hck, by rw [hse]⟩)
    have hB : (chkM n ln != 0) = true := by rw [bne_iff_ne]; exact hck
    go_enter Try.func22, Try.ntmps22
    go_wp2_with fail
    refine (unhide CD).mono ?_
    rintro e w1 ⟨rfl, E1⟩
    have HE1 := hide E1
    clear CD E1 hse
    generalize chkM n ln = r at *
    go_wp2
    go_ret2
    exact ⟨unhide HO _, unhide HE1⟩
--}
end Go.Proofs.Ytifkphlbjjdigaa
