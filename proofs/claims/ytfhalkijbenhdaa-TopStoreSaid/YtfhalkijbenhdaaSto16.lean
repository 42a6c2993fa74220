/-
  The contract of (*Store).Do.
-/
import Derived.Test.YtfhalkijbenhdaaSto15
import Derived.Test.YtfhalkijbenhdaaSto13
set_option linter.unusedVariables false
set_option linter.unusedSimpArgs false
namespace Go.Proofs.Ytfhalkijbenhdaa
open Go.RowKit Go.BigFrame

theorem putS_N (σ : Sto) (key : Nat) (s : ByteArray) : (σ.putS key s).2.N = σ.N := by unfold Sto.putS; split <;> rfl
theorem tornS_N (σ : Sto) (key : Nat) (n : Int) (s : ByteArray) : (σ.tornS key n s).2.N = σ.N := by unfold Sto.tornS; split <;> rfl
theorem readTo_N (σ : Sto) (key : Nat) : (readTo σ key).N = σ.N := by unfold readTo; split <;> rfl
theorem atS_N (σ : Sto) (kind key n : Int) : (σ.atS kind key n).2.N = σ.N := by
  unfold Sto.atS
  split
  · rfl
  · split
    · rfl
    · split
      · rfl
      · split
        · rfl
        · split <;> rfl
theorem getS_read (σ : Sto) (key : Nat) : (σ.getS key).2 = readTo σ key := by unfold Sto.getS readTo; split <;> rfl
theorem scrubS_read (σ : Sto) (key : Nat) : (σ.scrubS key).2 = readTo σ key := by unfold Sto.scrubS readTo; split <;> rfl
/-- What a read tells, its three answers. -/
def readTx (σ : Sto) (key : Nat) : ByteArray := if σ.readE key ≠ 0 then ⟨#[]⟩ else σ.readText key
def readTt (σ : Sto) (key : Nat) : Nat := if σ.readE key ≠ 0 then 0 else σ.readAt key
def readTm (σ : Sto) (key : Nat) : Nat := if σ.readE key ≠ 0 then 0 else σ.readMany key
theorem readV_eq (σ : Sto) (key : Nat) : readV σ key = .tuple #[.agg #[.string (readTx σ key), .int .i64 (readTt σ key : Int), .int .i64 0, .int .i64 0], .int .i64 (readTm σ key : Int), .int .i64 (σ.readE key)] := by
  unfold readV readTx readTt readTm
  by_cases h : σ.readE key = 0
  · rw [if_neg (by simpa using h), if_neg (by simpa using h), if_neg (by simpa using h), if_neg (by simpa using h), h]
  · rw [if_pos h, if_pos h, if_pos h, if_pos h]; rfl
theorem getS_tell (σ : Sto) (key : Nat) : tellV (σ.getS key).1 = .tuple #[.agg #[.string (readTx σ key), .int .i64 (readTt σ key : Int), .int .i64 0, .int .i64 0], .int .i64 (σ.readE key)] := by
  unfold Sto.getS readTx readTt
  by_cases h : σ.readE key = 0
  · rw [if_neg (by simpa using h), if_neg (by simpa using h), if_neg (by simpa using h), h]; rfl
  · rw [if_pos h, if_pos h, if_pos h]; rfl
theorem scrubS_tell (σ : Sto) (key : Nat) : tellV (σ.scrubS key).1 = .tuple #[.agg #[.string ⟨#[]⟩, .int .i64 0, .int .i64 0, .int .i64 (readTm σ key : Int)], .int .i64 (σ.readE key)] := by
  unfold Sto.scrubS readTm
  by_cases h : σ.readE key = 0
  · rw [if_neg (by simpa using h), if_neg (by simpa using h), h]; rfl
  · rw [if_pos h, if_pos h]; rfl
theorem atS_no (σ : Sto) (kind key n : Int) : (σ.atS kind key n).1 = Ans.no (σ.atS kind key n).1.err := by
  unfold Sto.atS
  split
  · rfl
  · split
    · rfl
    · split
      · rfl
      · split
        · rfl
        · split <;> rfl
theorem new2 (w : World) (a b : Array Value) (A B : TypeId) (j : Nat) : ((w.alloc (.cells a A)).alloc (.cells b B)).cell? ⟨w.heap.size, j, none⟩ = a[j]? ∧ ((w.alloc (.cells a A)).alloc (.cells b B)).cell? ⟨w.heap.size + 1, j, none⟩ = b[j]? ∧ ((w.alloc (.cells a A)).alloc (.cells b B)).frozen? ⟨w.heap.size + 1, j, none⟩ = false := by
  have s1 : (w.alloc (.cells a A)).heap.size = w.heap.size + 1 := by simp
  refine ⟨?_, ?_, ?_⟩
  · exact (((Ext.refl (w.alloc (.cells a A))).alloc (.cells b B)).cell (p := ⟨w.heap.size, j, none⟩) (by simp)).trans (new_cell w a A j)
  · rw [← s1]; exact new_cell _ b B j
  · rw [← s1]; exact new_frozen _ b B j
theorem doS_bad {σ : Sto} {kind key n : Int} {s : ByteArray} (h : kind < 1 ∨ 8 < kind ∨ (Sto.keyed kind ∧ ¬ Sto.isKey key)) : σ.doS kind key n s = (Ans.no 1, σ) := by unfold Sto.doS; rw [if_pos h]
theorem doS_ok {σ : Sto} {kind key n : Int} {s : ByteArray} (h : ¬ (kind < 1 ∨ 8 < kind ∨ (Sto.keyed kind ∧ ¬ Sto.isKey key))) : σ.doS kind key n s = if kind = 1 then σ.putS key.toNat s
  else if kind = 2 then σ.tornS key.toNat n s else if kind = 3 then σ.getS key.toNat else if kind = 8 then σ.scrubS key.toNat else σ.atS kind key n := by unfold Sto.doS; rw [if_neg h]

set_option maxRecDepth 100000 in
set_option maxHeartbeats 8000000 in
theorem do_ok {b0 p g : Nat} {w : World} {v : Nat → Nat → Value} {σ : Sto} (S : St b0 w p g v σ) (Fi : Fine σ) (kind key n : Int) (s : ByteArray) (hss : (s.size : Int) ≤ 9223372036854775807) :
    Calls Try.prog 14 #[.pointer (some ⟨p, 0, none⟩), deedV kind key n s] w fun e w' => e = .returned (tellV (σ.doS kind key n s).1) ∧ Became b0 w p g v σ w' (σ.doS kind key n s).2 := by
  have HS := hide S
  have HF := hide Fi
  have HNF := hide (show ∀ b, w.heap.size ≤ b → ¬ foot p g v σ.N b from fun b hb h => by have := S.foot_hi h; omega)
  obtain ⟨W0, hW0⟩ : ∃ W0, W0 = (w.alloc (.cells #[.int .i64 kind, .int .i64 key, .int .i64 n, .string s] 37)).alloc (.cells #[.string ⟨#[]⟩, .int .i64 0, .int .i64 0, .int .i64 0] 33) := ⟨_, rfl⟩
  have HW0 := hide hW0
  have hn2 := new2 w #[.int .i64 kind, .int .i64 key, .int .i64 n, .string s] #[.string ⟨#[]⟩, .int .i64 0, .int .i64 0, .int .i64 0] 37 33
  rw [← hW0] at hn2
  have E0 : Ext w W0 := by rw [hW0]; exact ((Ext.refl w).alloc _).alloc _
  have d0 : W0.cell? ⟨w.heap.size, 0, none⟩ = some (.int .i64 kind) := (hn2 0).1
  have d1 : W0.cell? ⟨w.heap.size, 1, none⟩ = some (.int .i64 key) := (hn2 1).1
  have d2 : W0.cell? ⟨w.heap.size, 2, none⟩ = some (.int .i64 n) := (hn2 2).1
  have d3 : W0.cell? ⟨w.heap.size, 3, none⟩ = some (.string s) := (hn2 3).1
  have r0 : W0.cell? ⟨w.heap.size + 1, 0, none⟩ = some (.string ⟨#[]⟩) := (hn2 0).2.1
  have r1 : W0.cell? ⟨w.heap.size + 1, 1, none⟩ = some (.int .i64 0) := (hn2 1).2.1
  have r2 : W0.cell? ⟨w.heap.size + 1, 2, none⟩ = some (.int .i64 0) := (hn2 2).2.1
  have r3 : W0.cell? ⟨w.heap.size + 1, 3, none⟩ = some (.int .i64 0) := (hn2 3).2.1
  have rf : ∀ j, W0.frozen? ⟨w.heap.size + 1, j, none⟩ = false := fun j => (hn2 j).2.2
  have hrb : w.heap.size + 1 < W0.heap.size := cell_lt r0
  have HE0 := hide E0
  have S0 := S.keep E0
  have HS0 := hide S0
  have HR0 := hide r0
  have HR1 := hide r1
  have HR2 := hide r2
  have HR3 := hide r3
  have HRF := hide rf
  have CK := hide (fun W => isKey_ok key W)
  clear S Fi hW0 hn2 E0 S0
  have HT := hide (show ∀ (wr : World) (σ' : Sto), Became b0 W0 p g v σ wr σ' → σ'.N = σ.N → (wr.cell? ⟨w.heap.size + 1, 0, none⟩ = some (.string ⟨#[]⟩) ∧ wr.cell? ⟨w.heap.size + 1, 1, none⟩ = some (.int .i64 0) ∧ wr.cell? ⟨w.heap.size + 1, 2, none⟩ = some (.int .i64 0) ∧ wr.cell? ⟨w.heap.size + 1, 3, none⟩ = some (.int .i64 0) ∧ ∀ j, wr.frozen? ⟨w.heap.size + 1, j, none⟩ = false) ∧
      ∀ u0 u1 u2 u3, Became b0 w p g v σ ((((wr.setCell ⟨w.heap.size + 1, 0, none⟩ u0).setCell ⟨w.heap.size + 1, 1, none⟩ u1).setCell ⟨w.heap.size + 1, 2, none⟩ u2).setCell ⟨w.heap.size + 1, 3, none⟩ u3) σ' from fun wr σ' B hN => by
    have hnf : ¬ foot p g v σ.N (w.heap.size + 1) := unhide HNF _ (by omega)
    refine ⟨?_, fun u0 u1 u2 u3 => Became.tell (Only.of_ext (unhide HE0)) B rfl hN (by omega) hrb hnf u0 u1 u2 u3⟩
    obtain ⟨v', S', O', F'⟩ := B
    exact ⟨O'.keepc (unhide HR0) hnf, O'.keepc (unhide HR1) hnf, O'.keepc (unhide HR2) hnf, O'.keepc (unhide HR3) hnf, fun j => (World.frozen?_of_block (a := ⟨w.heap.size + 1, j, none⟩) (O'.block _ hrb hnf)).trans (unhide HRF j)⟩)
  unfold deedV
  by_cases h1 : kind < 1
  · have HP := hide (doS_bad (σ := σ) (n := n) (s := s) (key := key) (kind := kind) (.inl h1))
    have h3 : kind ≤ 3 := by omega
    clear HT
    go_enter Try.func14, Try.ntmps14
    go_wp2
    refine bodyPost_ret (v := .tuple #[.agg #[.string ⟨#[]⟩, .int .i64 0, .int .i64 0, .int .i64 0], .int .i64 1]) (by simp [results, Try.results14, go_sem]) rfl ?_
    rw [unhide HP]
    exact ⟨rfl, Became.of_ext (unhide HS) (by have := unhide HE0; rw [unhide HW0] at this; exact this)⟩
  by_cases h8 : 8 < kind
  · have HP := hide (doS_bad (σ := σ) (n := n) (s := s) (key := key) (kind := kind) (.inr (.inl h8)))
    have h3 : ¬ kind ≤ 3 := by omega
    have e8 : (kind == 8) = false := by rw [beq_eq_false_iff_ne]; omega
    have e7 : (kind == 7) = false := by rw [beq_eq_false_iff_ne]; omega
    clear HT
    go_enter Try.func14, Try.ntmps14
    go_wp2
    refine bodyPost_ret (v := .tuple #[.agg #[.string ⟨#[]⟩, .int .i64 0, .int .i64 0, .int .i64 0], .int .i64 1]) (by simp [results, Try.results14, go_sem]) rfl ?_
    rw [unhide HP]
    exact ⟨rfl, Became.of_ext (unhide HS) (by have := unhide HE0; rw [unhide HW0] at this; exact this)⟩
  have hcases : kind = 4 ∨ kind = 5 ∨ kind = 6 ∨ kind = 1 ∨ kind = 2 ∨ kind = 3 ∨ kind = 7 ∨ kind = 8 := by omega
  rcases hcases with rfl | rfl | rfl | hcases
  · have HP := hide (show σ.doS 4 key n s = σ.atS 4 key n from by rw [doS_ok (by rintro (h | h | h) <;> first | omega | (have := h.1; unfold Sto.keyed at this; omega)), if_neg (by decide), if_neg (by decide), if_neg (by decide), if_neg (by decide)])
    have CP := hide (show ∀ W, Ext w W → Calls Try.prog 35 #[.pointer (some ⟨p, 0, none⟩), .agg #[.int .i64 4, .int .i64 key, .int .i64 n, .string s]] W fun e w' => e = .returned (.int .i64 (σ.atS 4 key n).1.err) ∧ Became b0 W p g v σ w' (σ.atS 4 key n).2 from fun W E => at_ok ((unhide HS).keep E) (unhide HF) 4 key n s (.inl rfl))
    have hN := atS_N σ 4 key n
    have HNO := hide (atS_no σ 4 key n)
    clear CK
    go_enter Try.func14, Try.ntmps14
    go_wp2_with fail
    rw [← unhide HW0]
    refine (unhide CP _ (unhide HE0)).mono ?_
    rintro e w2 ⟨rfl, B2⟩
    obtain ⟨⟨z0, z1, z2, z3, zf⟩, HB⟩ := unhide HT _ _ B2 hN
    have HBB := hide HB
    obtain ⟨er, her⟩ : ∃ er, er = (σ.atS 4 key n).1.err := ⟨_, rfl⟩
    rw [← her]
    rw [← her] at HNO
    clear B2 HB d0 d1 d2 d3 r0 r1 r2 r3 rf HT CP her
    go_wp2
    refine bodyPost_ret (v := .tuple #[.agg #[.string ⟨#[]⟩, .int .i64 0, .int .i64 0, .int .i64 0], .int .i64 er]) (by simp [results, Try.results14, go_sem, World.cell?_setCell_same', z0, z1, z2, z3]) rfl ?_
    have HB4 := hide (unhide HBB (.string ⟨#[]⟩) (.int .i64 0) (.int .i64 0) (.int .i64 0))
    rw [unhide HP, unhide HNO]
    exact ⟨rfl, by first | exact unhide HB4 | (have h := unhide HB4; exact h)⟩
  · have HP := hide (show σ.doS 5 key n s = σ.atS 5 key n from by rw [doS_ok (by rintro (h | h | h) <;> first | omega | (have := h.1; unfold Sto.keyed at this; omega)), if_neg (by decide), if_neg (by decide), if_neg (by decide), if_neg (by decide)])
    have CP := hide (show ∀ W, Ext w W → Calls Try.prog 35 #[.pointer (some ⟨p, 0, none⟩), .agg #[.int .i64 5, .int .i64 key, .int .i64 n, .string s]] W fun e w' => e = .returned (.int .i64 (σ.atS 5 key n).1.err) ∧ Became b0 W p g v σ w' (σ.atS 5 key n).2 from fun W E => at_ok ((unhide HS).keep E) (unhide HF) 5 key n s (.inr (.inl rfl)))
    have hN := atS_N σ 5 key n
    have HNO := hide (atS_no σ 5 key n)
    clear CK
    go_enter Try.func14, Try.ntmps14
    go_wp2_with fail
    rw [← unhide HW0]
    refine (unhide CP _ (unhide HE0)).mono ?_
    rintro e w2 ⟨rfl, B2⟩
    obtain ⟨⟨z0, z1, z2, z3, zf⟩, HB⟩ := unhide HT _ _ B2 hN
    have HBB := hide HB
    obtain ⟨er, her⟩ : ∃ er, er = (σ.atS 5 key n).1.err := ⟨_, rfl⟩
    rw [← her]
    rw [← her] at HNO
    clear B2 HB d0 d1 d2 d3 r0 r1 r2 r3 rf HT CP her
    go_wp2
    refine bodyPost_ret (v := .tuple #[.agg #[.string ⟨#[]⟩, .int .i64 0, .int .i64 0, .int .i64 0], .int .i64 er]) (by simp [results, Try.results14, go_sem, World.cell?_setCell_same', z0, z1, z2, z3]) rfl ?_
    have HB4 := hide (unhide HBB (.string ⟨#[]⟩) (.int .i64 0) (.int .i64 0) (.int .i64 0))
    rw [unhide HP, unhide HNO]
    exact ⟨rfl, by first | exact unhide HB4 | (have h := unhide HB4; exact h)⟩
  · have HP := hide (show σ.doS 6 key n s = σ.atS 6 key n from by rw [doS_ok (by rintro (h | h | h) <;> first | omega | (have := h.1; unfold Sto.keyed at this; omega)), if_neg (by decide), if_neg (by decide), if_neg (by decide), if_neg (by decide)])
    have CP := hide (show ∀ W, Ext w W → Calls Try.prog 35 #[.pointer (some ⟨p, 0, none⟩), .agg #[.int .i64 6, .int .i64 key, .int .i64 n, .string s]] W fun e w' => e = .returned (.int .i64 (σ.atS 6 key n).1.err) ∧ Became b0 W p g v σ w' (σ.atS 6 key n).2 from fun W E => at_ok ((unhide HS).keep E) (unhide HF) 6 key n s (.inr (.inr (.inl rfl))))
    have hN := atS_N σ 6 key n
    have HNO := hide (atS_no σ 6 key n)
    clear CK
    go_enter Try.func14, Try.ntmps14
    go_wp2_with fail
    rw [← unhide HW0]
    refine (unhide CP _ (unhide HE0)).mono ?_
    rintro e w2 ⟨rfl, B2⟩
    obtain ⟨⟨z0, z1, z2, z3, zf⟩, HB⟩ := unhide HT _ _ B2 hN
    have HBB := hide HB
    obtain ⟨er, her⟩ : ∃ er, er = (σ.atS 6 key n).1.err := ⟨_, rfl⟩
    rw [← her]
    rw [← her] at HNO
    clear B2 HB d0 d1 d2 d3 r0 r1 r2 r3 rf HT CP her
    go_wp2
    refine bodyPost_ret (v := .tuple #[.agg #[.string ⟨#[]⟩, .int .i64 0, .int .i64 0, .int .i64 0], .int .i64 er]) (by simp [results, Try.results14, go_sem, World.cell?_setCell_same', z0, z1, z2, z3]) rfl ?_
    have HB4 := hide (unhide HBB (.string ⟨#[]⟩) (.int .i64 0) (.int .i64 0) (.int .i64 0))
    rw [unhide HP, unhide HNO]
    exact ⟨rfl, by first | exact unhide HB4 | (have h := unhide HB4; exact h)⟩
  · by_cases hk : Sto.isKey key
    · rw [decide_eq_true hk] at CK
      obtain ⟨k, rfl⟩ : ∃ k : Nat, key = (k : Int) := ⟨key.toNat, by unfold Sto.isKey at hk; omega⟩
      have hk3 : k < 3 := by unfold Sto.isKey at hk; omega
      have HK := hide hk
      clear hk h1 h8
      rcases hcases with rfl | rfl | rfl | rfl | rfl
      · have HP := hide (show σ.doS 1 (k : Int) n s = σ.putS k s from by rw [doS_ok (by have := unhide HK; rintro (h | h | h) <;> first | omega | exact h.2 this), if_pos rfl, Int.toNat_natCast])
        have CP := hide (show ∀ W, Ext w W → Calls Try.prog 32 #[.pointer (some ⟨p, 0, none⟩), .agg #[.int .i64 1, .int .i64 (k : Int), .int .i64 n, .string s]] W fun e w' => e = .returned (tellV (σ.putS k s).1) ∧ Became b0 W p g v σ w' (σ.putS k s).2 from fun W E => put_ok ((unhide HS).keep E) (unhide HF) 1 n k hk3 s hss)
        have hN := putS_N σ k s
        clear CK
        go_enter Try.func14, Try.ntmps14
        go_wp2_with fail
        rw [← unhide HW0]
        refine (isKey_ok (k : Int) _).mono ?_
        rintro e w1 ⟨rfl, rfl⟩
        rw [decide_eq_true (unhide HK)]
        go_wp2_with fail
        refine (unhide CP _ (unhide HE0)).mono ?_
        rintro e w2 ⟨rfl, B2⟩
        obtain ⟨⟨z0, z1, z2, z3, zf⟩, HB⟩ := unhide HT _ _ B2 hN
        have HBB := hide HB
        clear B2 HB d0 d1 d2 d3 r0 r1 r2 r3 rf HT CP
        obtain ⟨an, han⟩ : ∃ a, a = (σ.putS k s).1 := ⟨_, rfl⟩
        rw [← han]
        have HAN := hide han
        clear han
        obtain ⟨tx, at_, mn, er⟩ := an
        rw [show tellV ⟨tx, at_, mn, er⟩ = .tuple #[.agg #[.string tx, .int .i64 (at_ : Int), .int .i64 0, .int .i64 (mn : Int)], .int .i64 er] from rfl]
        go_wp2
        refine bodyPost_ret (v := .tuple #[.agg #[.string tx, .int .i64 (at_ : Int), .int .i64 0, .int .i64 (mn : Int)], .int .i64 er]) (by simp [results, Try.results14, go_sem, World.cell?_setCell_same', z0, z1, z2, z3]) rfl ?_
        have HB4 := hide (unhide HBB (.string tx) (.int .i64 (at_ : Int)) (.int .i64 0) (.int .i64 (mn : Int)))
        rw [unhide HP]
        exact ⟨by rw [← unhide HAN]; rfl, unhide HB4⟩
      · have HP := hide (show σ.doS 2 (k : Int) n s = σ.tornS k n s from by rw [doS_ok (by have := unhide HK; rintro (h | h | h) <;> first | omega | exact h.2 this), if_neg (by decide), if_pos rfl, Int.toNat_natCast])
        have CP := hide (show ∀ W, Ext w W → Calls Try.prog 33 #[.pointer (some ⟨p, 0, none⟩), .agg #[.int .i64 2, .int .i64 (k : Int), .int .i64 n, .string s]] W fun e w' => e = .returned (tellV (σ.tornS k n s).1) ∧ Became b0 W p g v σ w' (σ.tornS k n s).2 from fun W E => torn_ok ((unhide HS).keep E) (unhide HF) 2 n k hk3 s hss)
        have hN := tornS_N σ k n s
        clear CK
        go_enter Try.func14, Try.ntmps14
        go_wp2_with fail
        rw [← unhide HW0]
        refine (isKey_ok (k : Int) _).mono ?_
        rintro e w1 ⟨rfl, rfl⟩
        rw [decide_eq_true (unhide HK)]
        go_wp2_with fail
        refine (unhide CP _ (unhide HE0)).mono ?_
        rintro e w2 ⟨rfl, B2⟩
        obtain ⟨⟨z0, z1, z2, z3, zf⟩, HB⟩ := unhide HT _ _ B2 hN
        have HBB := hide HB
        clear B2 HB d0 d1 d2 d3 r0 r1 r2 r3 rf HT CP
        obtain ⟨an, han⟩ : ∃ a, a = (σ.tornS k n s).1 := ⟨_, rfl⟩
        rw [← han]
        have HAN := hide han
        clear han
        obtain ⟨tx, at_, mn, er⟩ := an
        rw [show tellV ⟨tx, at_, mn, er⟩ = .tuple #[.agg #[.string tx, .int .i64 (at_ : Int), .int .i64 0, .int .i64 (mn : Int)], .int .i64 er] from rfl]
        go_wp2
        refine bodyPost_ret (v := .tuple #[.agg #[.string tx, .int .i64 (at_ : Int), .int .i64 0, .int .i64 (mn : Int)], .int .i64 er]) (by simp [results, Try.results14, go_sem, World.cell?_setCell_same', z0, z1, z2, z3]) rfl ?_
        have HB4 := hide (unhide HBB (.string tx) (.int .i64 (at_ : Int)) (.int .i64 0) (.int .i64 (mn : Int)))
        rw [unhide HP]
        exact ⟨by rw [← unhide HAN]; rfl, unhide HB4⟩
      · have HP := hide (show σ.doS 3 (k : Int) n s = σ.getS k from by rw [doS_ok (by have := unhide HK; rintro (h | h | h) <;> first | omega | exact h.2 this), if_neg (by decide), if_neg (by decide), if_pos rfl, Int.toNat_natCast])
        have CP := hide (show ∀ W, Ext w W → Calls Try.prog 34 #[.pointer (some ⟨p, 0, none⟩), .int .i64 (k : Int)] W fun e w' => e = .returned (.tuple #[.agg #[.string (readTx σ k), .int .i64 (readTt σ k : Int), .int .i64 0, .int .i64 0], .int .i64 (readTm σ k : Int), .int .i64 (σ.readE k)]) ∧ Became b0 W p g v σ w' (readTo σ k) from fun W E => by rw [← readV_eq]; exact read_ok ((unhide HS).keep E) (unhide HF) k hk3)
        have hN := readTo_N σ k
        have HTL := hide (getS_tell σ k)
        have HTR := hide (getS_read σ k)
        clear CK
        go_enter Try.func14, Try.ntmps14
        go_wp2_with fail
        rw [← unhide HW0]
        refine (isKey_ok (k : Int) _).mono ?_
        rintro e w1 ⟨rfl, rfl⟩
        rw [decide_eq_true (unhide HK)]
        go_wp2_with fail
        refine (unhide CP _ (unhide HE0)).mono ?_
        rintro e w2 ⟨rfl, B2⟩
        obtain ⟨tx, htx⟩ : ∃ tx, tx = readTx σ k := ⟨_, rfl⟩
        obtain ⟨tt, htt⟩ : ∃ tt, tt = readTt σ k := ⟨_, rfl⟩
        obtain ⟨tm, htm⟩ : ∃ tm, tm = readTm σ k := ⟨_, rfl⟩
        obtain ⟨er, her⟩ : ∃ er, er = σ.readE k := ⟨_, rfl⟩
        rw [← htx, ← htt, ← htm, ← her]
        rw [← htx, ← htt, ← her] at HTL
        have HTL2 := HTL
        clear htx htt htm her
        obtain ⟨⟨z0, z1, z2, z3, zf⟩, HB⟩ := unhide HT _ _ (B2.ext ((Ext.refl w2).alloc (.cells #[.string tx, .int .i64 (tt : Int), .int .i64 0, .int .i64 0] 33))) hN
        have HBB := hide HB
        clear B2 HB d0 d1 d2 d3 r0 r1 r2 r3 rf HT CP HTL
        go_wp2
        refine bodyPost_ret (v := .tuple #[.agg #[.string tx, .int .i64 (tt : Int), .int .i64 0, .int .i64 0], .int .i64 er]) (by simp [results, Try.results14, go_sem, World.cell?_setCell_same', z0, z1, z2, z3]) rfl ?_
        have HB4 := hide (unhide HBB (.string tx) (.int .i64 (tt : Int)) (.int .i64 0) (.int .i64 0))
        rw [unhide HP, unhide HTR]
        exact ⟨by rw [unhide HTL2], unhide HB4⟩
      · have HP := hide (show σ.doS 7 (k : Int) n s = σ.atS 7 (k : Int) n from by rw [doS_ok (by have := unhide HK; rintro (h | h | h) <;> first | omega | exact h.2 this), if_neg (by decide), if_neg (by decide), if_neg (by decide), if_neg (by decide)])
        have CP := hide (show ∀ W, Ext w W → Calls Try.prog 35 #[.pointer (some ⟨p, 0, none⟩), .agg #[.int .i64 7, .int .i64 (k : Int), .int .i64 n, .string s]] W fun e w' => e = .returned (.int .i64 (σ.atS 7 (k : Int) n).1.err) ∧ Became b0 W p g v σ w' (σ.atS 7 (k : Int) n).2 from fun W E => at_ok ((unhide HS).keep E) (unhide HF) 7 (k : Int) n s (.inr (.inr (.inr ⟨rfl, unhide HK⟩))))
        have hN := atS_N σ 7 (k : Int) n
        have HNO := hide (atS_no σ 7 (k : Int) n)
        clear CK
        go_enter Try.func14, Try.ntmps14
        go_wp2_with fail
        rw [← unhide HW0]
        refine (isKey_ok (k : Int) _).mono ?_
        rintro e w1 ⟨rfl, rfl⟩
        rw [decide_eq_true (unhide HK)]
        go_wp2_with fail
        refine (unhide CP _ (unhide HE0)).mono ?_
        rintro e w2 ⟨rfl, B2⟩
        obtain ⟨⟨z0, z1, z2, z3, zf⟩, HB⟩ := unhide HT _ _ B2 hN
        have HBB := hide HB
        obtain ⟨er, her⟩ : ∃ er, er = (σ.atS 7 (k : Int) n).1.err := ⟨_, rfl⟩
        rw [← her]
        rw [← her] at HNO
        clear B2 HB d0 d1 d2 d3 r0 r1 r2 r3 rf HT CP her
        go_wp2
        refine bodyPost_ret (v := .tuple #[.agg #[.string ⟨#[]⟩, .int .i64 0, .int .i64 0, .int .i64 0], .int .i64 er]) (by simp [results, Try.results14, go_sem, World.cell?_setCell_same', z0, z1, z2, z3]) rfl ?_
        have HB4 := hide (unhide HBB (.string ⟨#[]⟩) (.int .i64 0) (.int .i64 0) (.int .i64 0))
        rw [unhide HP, unhide HNO]
        exact ⟨rfl, by first | exact unhide HB4 | (have h := unhide HB4; exact h)⟩
      · have HP := hide (show σ.doS 8 (k : Int) n s = σ.scrubS k from by rw [doS_ok (by have := unhide HK; rintro (h | h | h) <;> first | omega | exact h.2 this), if_neg (by decide), if_neg (by decide), if_neg (by decide), if_pos rfl, Int.toNat_natCast])
        have CP := hide (show ∀ W, Ext w W → Calls Try.prog 34 #[.pointer (some ⟨p, 0, none⟩), .int .i64 (k : Int)] W fun e w' => e = .returned (.tuple #[.agg #[.string (readTx σ k), .int .i64 (readTt σ k : Int), .int .i64 0, .int .i64 0], .int .i64 (readTm σ k : Int), .int .i64 (σ.readE k)]) ∧ Became b0 W p g v σ w' (readTo σ k) from fun W E => by rw [← readV_eq]; exact read_ok ((unhide HS).keep E) (unhide HF) k hk3)
        have hN := readTo_N σ k
        have HTL := hide (scrubS_tell σ k)
        have HTR := hide (scrubS_read σ k)
        clear CK
        go_enter Try.func14, Try.ntmps14
        go_wp2_with fail
        rw [← unhide HW0]
        refine (isKey_ok (k : Int) _).mono ?_
        rintro e w1 ⟨rfl, rfl⟩
        rw [decide_eq_true (unhide HK)]
        go_wp2_with fail
        refine (unhide CP _ (unhide HE0)).mono ?_
        rintro e w2 ⟨rfl, B2⟩
        obtain ⟨tx, htx⟩ : ∃ tx, tx = readTx σ k := ⟨_, rfl⟩
        obtain ⟨tt, htt⟩ : ∃ tt, tt = readTt σ k := ⟨_, rfl⟩
        obtain ⟨tm, htm⟩ : ∃ tm, tm = readTm σ k := ⟨_, rfl⟩
        obtain ⟨er, her⟩ : ∃ er, er = σ.readE k := ⟨_, rfl⟩
        rw [← htx, ← htt, ← htm, ← her]
        rw [← htm, ← her] at HTL
        have HTL2 := HTL
        clear htx htt htm her
        obtain ⟨⟨z0, z1, z2, z3, zf⟩, HB⟩ := unhide HT _ _ (B2.ext ((Ext.refl w2).alloc (.cells #[.string tx, .int .i64 (tt : Int), .int .i64 0, .int .i64 0] 33))) hN
        have HBB := hide HB
        clear B2 HB d0 d1 d2 d3 r0 r1 r2 r3 rf HT CP HTL
        go_wp2
        refine bodyPost_ret (v := .tuple #[.agg #[.string ⟨#[]⟩, .int .i64 0, .int .i64 0, .int .i64 (tm : Int)], .int .i64 er]) (by simp [results, Try.results14, go_sem, World.cell?_setCell_same', z0, z1, z2, z3]) rfl ?_
        have HB4 := hide (unhide HBB (.string ⟨#[]⟩) (.int .i64 0) (.int .i64 0) (.int .i64 (tm : Int)))
        rw [unhide HP, unhide HTR]
        exact ⟨by rw [unhide HTL2], unhide HB4⟩
    · rw [decide_eq_false hk] at CK
      rcases hcases with rfl | rfl | rfl | rfl | rfl
      · have HP := hide (doS_bad (σ := σ) (n := n) (s := s) (key := key) (kind := 1) (.inr (.inr ⟨by unfold Sto.keyed; omega, hk⟩)))
        clear HT h1 h8
        go_enter Try.func14, Try.ntmps14
        go_wp2_with fail
        rw [← unhide HW0]
        refine (unhide CK _).mono ?_
        rintro e w1 ⟨rfl, rfl⟩
        go_wp2
        refine bodyPost_ret (v := .tuple #[.agg #[.string ⟨#[]⟩, .int .i64 0, .int .i64 0, .int .i64 0], .int .i64 1]) (by simp [results, Try.results14, go_sem, World.cell?_setCell_same', r0, r1, r2, r3]) rfl ?_
        rw [unhide HP]
        exact ⟨rfl, Became.of_ext (unhide HS) ((unhide HE0).set4 (by omega) _ _ _ _)⟩
      · have HP := hide (doS_bad (σ := σ) (n := n) (s := s) (key := key) (kind := 2) (.inr (.inr ⟨by unfold Sto.keyed; omega, hk⟩)))
        clear HT h1 h8
        go_enter Try.func14, Try.ntmps14
        go_wp2_with fail
        rw [← unhide HW0]
        refine (unhide CK _).mono ?_
        rintro e w1 ⟨rfl, rfl⟩
        go_wp2
        refine bodyPost_ret (v := .tuple #[.agg #[.string ⟨#[]⟩, .int .i64 0, .int .i64 0, .int .i64 0], .int .i64 1]) (by simp [results, Try.results14, go_sem, World.cell?_setCell_same', r0, r1, r2, r3]) rfl ?_
        rw [unhide HP]
        exact ⟨rfl, Became.of_ext (unhide HS) ((unhide HE0).set4 (by omega) _ _ _ _)⟩
      · have HP := hide (doS_bad (σ := σ) (n := n) (s := s) (key := key) (kind := 3) (.inr (.inr ⟨by unfold Sto.keyed; omega, hk⟩)))
        clear HT h1 h8
        go_enter Try.func14, Try.ntmps14
        go_wp2_with fail
        rw [← unhide HW0]
        refine (unhide CK _).mono ?_
        rintro e w1 ⟨rfl, rfl⟩
        go_wp2
        refine bodyPost_ret (v := .tuple #[.agg #[.string ⟨#[]⟩, .int .i64 0, .int .i64 0, .int .i64 0], .int .i64 1]) (by simp [results, Try.results14, go_sem, World.cell?_setCell_same', r0, r1, r2, r3]) rfl ?_
        rw [unhide HP]
        exact ⟨rfl, Became.of_ext (unhide HS) ((unhide HE0).set4 (by omega) _ _ _ _)⟩
      · have HP := hide (doS_bad (σ := σ) (n := n) (s := s) (key := key) (kind := 7) (.inr (.inr ⟨by unfold Sto.keyed; omega, hk⟩)))
        clear HT h1 h8
        go_enter Try.func14, Try.ntmps14
        go_wp2_with fail
        rw [← unhide HW0]
        refine (unhide CK _).mono ?_
        rintro e w1 ⟨rfl, rfl⟩
        go_wp2
        refine bodyPost_ret (v := .tuple #[.agg #[.string ⟨#[]⟩, .int .i64 0, .int .i64 0, .int .i64 0], .int .i64 1]) (by simp [results, Try.results14, go_sem, World.cell?_setCell_same', r0, r1, r2, r3]) rfl ?_
        rw [unhide HP]
        exact ⟨rfl, Became.of_ext (unhide HS) ((unhide HE0).set4 (by omega) _ _ _ _)⟩
      · have HP := hide (doS_bad (σ := σ) (n := n) (s := s) (key := key) (kind := 8) (.inr (.inr ⟨by unfold Sto.keyed; omega, hk⟩)))
        clear HT h1 h8
        go_enter Try.func14, Try.ntmps14
        go_wp2_with fail
        rw [← unhide HW0]
        refine (unhide CK _).mono ?_
        rintro e w1 ⟨rfl, rfl⟩
        go_wp2
        refine bodyPost_ret (v := .tuple #[.agg #[.string ⟨#[]⟩, .int .i64 0, .int .i64 0, .int .i64 0], .int .i64 1]) (by simp [results, Try.results14, go_sem, World.cell?_setCell_same', r0, r1, r2, r3]) rfl ?_
        rw [unhide HP]
        exact ⟨rfl, Became.of_ext (unhide HS) ((unhide HE0).set4 (by omega) _ _ _ _)⟩
end Go.Proofs.Ytfhalkijbenhdaa
