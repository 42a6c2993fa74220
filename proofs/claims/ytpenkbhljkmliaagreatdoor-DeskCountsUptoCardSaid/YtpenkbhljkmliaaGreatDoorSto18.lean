import Derived.Test.YtpenkbhljkmliaaGreatDoorSto15
import Derived.Test.YtpenkbhljkmliaaGreatDoorSto13
import Derived.Test.YtpenkbhljkmliaaGreatDoorSto3
import Derived.Test.YtpenkbhljkmliaaGreatDoorTri
import Derived.Test.YtpenkbhljkmliaaGreatDoorArith1
/-
  The contract of (*Store).Do.
-/
set_option linter.unusedVariables false
set_option linter.unusedSimpArgs false
namespace Go.Proofs.YtpenkbhljkmliaaGreatDoor
open Go.RowKit Go.BigFrame

theorem putS_N (σ : Sto) (key : Nat) (s : ByteArray) : (σ.putS key s).2.N = σ.N := by unfold Sto.putS; split <;> rfl
theorem tornS_N (σ : Sto) (key : Nat) (n : Int) (s : ByteArray) : (σ.tornS key n s).2.N = σ.N := by unfold Sto.tornS; split <;> rfl
theorem readTo_N (σ : Sto) (key : Nat) : (readTo σ key).N = σ.N := by unfold readTo; split <;> rfl
theorem atS_N (σ : Sto) (kind key n : Int) : (σ.atS kind key n).2.N = σ.N := by
  unfold Sto.atS
  split
  · rfl
  · split
    · rfl
    · split
      · rfl
      · split
        · rfl
        · split <;> rfl
theorem getS_read (σ : Sto) (key : Nat) : (σ.getS key).2 = readTo σ key := by unfold Sto.getS readTo; split <;> rfl
theorem scrubS_read (σ : Sto) (key : Nat) : (σ.scrubS key).2 = readTo σ key := by unfold Sto.scrubS readTo; split <;> rfl
/-- What a read tells, its three answers. -/
def readTx (σ : Sto) (key : Nat) : ByteArray := if σ.readE key ≠ 0 then ⟨#[]⟩ else σ.readText key
def readTt (σ : Sto) (key : Nat) : Nat := if σ.readE key ≠ 0 then 0 else σ.readAt key
def readTm (σ : Sto) (key : Nat) : Nat := if σ.readE key ≠ 0 then 0 else σ.readMany key
theorem readV_eq (σ : Sto) (key : Nat) : readV σ key = .tuple #[.agg #[.string (readTx σ key), .int .i64 (readTt σ key : Int), .int .i64 0, .int .i64 0], .int .i64 (readTm σ key : Int), .int .i64 (σ.readE key)] := by
  unfold readV readTx readTt readTm
  by_cases h : σ.readE key = 0
  · rw [if_neg (by simpa using h), if_neg (by simpa using h), if_neg (by simpa using h), if_neg (by simpa using h), h]
  · rw [if_pos h, if_pos h, if_pos h, if_pos h]; rfl
theorem getS_tell (σ : Sto) (key : Nat) : tellV (σ.getS key).1 = .tuple #[.agg #[.string (readTx σ key), .int .i64 (readTt σ key : Int), .int .i64 0, .int .i64 0], .int .i64 (σ.readE key)] := by
  unfold Sto.getS readTx readTt
  by_cases h : σ.readE key = 0
  · rw [if_neg (by simpa using h), if_neg (by simpa using h), if_neg (by simpa using h), h]; rfl
  · rw [if_pos h, if_pos h, if_pos h]; rfl
theorem scrubS_tell (σ : Sto) (key : Nat) : tellV (σ.scrubS key).1 = .tuple #[.agg #[.string ⟨#[]⟩, .int .i64 0, .int .i64 0, .int .i64 (readTm σ key : Int)], .int .i64 (σ.readE key)] := by
  unfold Sto.scrubS readTm
  by_cases h : σ.readE key = 0
  · rw [if_neg (by simpa using h), if_neg (by simpa using h), h]; rfl
  · rw [if_pos h, if_pos h]; rfl
theorem atS_no (σ : Sto) (kind key n : Int) : (σ.atS kind key n).1 = Ans.no (σ.atS kind key n).1.err := by
  unfold Sto.atS
  split
  · rfl
  · split
    · rfl
    · split
      · rfl
      · split
        · rfl
        · split <;> rfl
theorem new2 (w : World) (a b : Array Value) (A B : TypeId) (j : Nat) : ((w.alloc (.cells a A)).alloc (.cells b B)).cell? ⟨w.heap.size, j, none⟩ = a[j]? ∧ ((w.alloc (.cells a A)).alloc (.cells b B)).cell? ⟨w.heap.size + 1, j, none⟩ = b[j]? ∧ ((w.alloc (.cells a A)).alloc (.cells b B)).frozen? ⟨w.heap.size + 1, j, none⟩ = false := by
  have s1 : (w.alloc (.cells a A)).heap.size = w.heap.size + 1 := by simp
  refine ⟨?_, ?_, ?_⟩
  · exact (((Ext.refl (w.alloc (.cells a A))).alloc (.cells b B)).cell (p := ⟨w.heap.size, j, none⟩) (by simp)).trans (new_cell w a A j)
  · rw [← s1]; exact new_cell _ b B j
  · rw [← s1]; exact new_frozen _ b B j
theorem doS_bad {σ : Sto} {kind key n : Int} {s : ByteArray} (h : kind < 1 ∨ 8 < kind ∨ (Sto.keyed kind ∧ ¬ Sto.isKey key)) : σ.doS kind key n s = (Ans.no 1, σ) := by unfold Sto.doS; rw [if_pos h]
theorem doS_ok {σ : Sto} {kind key n : Int} {s : ByteArray} (h : ¬ (kind < 1 ∨ 8 < kind ∨ (Sto.keyed kind ∧ ¬ Sto.isKey key))) : σ.doS kind key n s = if kind = 1 then σ.putS key.toNat s
  else if kind = 2 then σ.tornS key.toNat n s else if kind = 3 then σ.getS key.toNat else if kind = 8 then σ.scrubS key.toNat else σ.atS kind key n := by unfold Sto.doS; rw [if_neg h]

set_option maxRecDepth 100000 in
set_option maxHeartbeats 8000000 in
theorem do_ok {b0 p g : Nat} {w : World} {v : Nat → Nat → Value} {σ : Sto} (S : St b0 w p g v σ) (Fi : Fine σ) (kind key n : Int) (s : ByteArray) (hss : (s.size : Int) ≤ 9223372036854775807) :
    Calls Tryz.prog 45 #[.pointer (some ⟨p, 0, none⟩), deedV kind key n s] w fun e w' => e = .returned (tellV (σ.doS kind key n s).1) ∧ Became b0 w p g v σ w' (σ.doS kind key n s).2 := by
  have HS := hide S
  have HF := hide Fi
  have HNF := hide (show ∀ b, w.heap.size ≤ b → ¬ foot p g v σ.N b from fun b hb h => by have := S.foot_hi h; omega)
  obtain ⟨W0, hW0⟩ : ∃ W0, W0 = (w.alloc (.cells #[.int .i64 kind, .int .i64 key, .int .i64 n, .string s] 70)).alloc (.cells #[.string ⟨#[]⟩, .int .i64 0, .int .i64 0, .int .i64 0] 67) := ⟨_, rfl⟩
  have HW0 := hide hW0
  have hn2 := new2 w #[.int .i64 kind, .int .i64 key, .int .i64 n, .string s] #[.string ⟨#[]⟩, .int .i64 0, .int .i64 0, .int .i64 0] 70 67
  rw [← hW0] at hn2
  have E0 : Ext w W0 := by rw [hW0]; exact ((Ext.refl w).alloc _).alloc _
  have d0 : W0.cell? ⟨w.heap.size, 0, none⟩ = some (.int .i64 kind) := (hn2 0).1
  have d1 : W0.cell? ⟨w.heap.size, 1, none⟩ = some (.int .i64 key) := (hn2 1).1
  have d2 : W0.cell? ⟨w.heap.size, 2, none⟩ = some (.int .i64 n) := (hn2 2).1
  have d3 : W0.cell? ⟨w.heap.size, 3, none⟩ = some (.string s) := (hn2 3).1
  have r0 : W0.cell? ⟨w.heap.size + 1, 0, none⟩ = some (.string ⟨#[]⟩) := (hn2 0).2.1
  have r1 : W0.cell? ⟨w.heap.size + 1, 1, none⟩ = some (.int .i64 0) := (hn2 1).2.1
  have r2 : W0.cell? ⟨w.heap.size + 1, 2, none⟩ = some (.int .i64 0) := (hn2 2).2.1
  have r3 : W0.cell? ⟨w.heap.size + 1, 3, none⟩ = some (.int .i64 0) := (hn2 3).2.1
  have rf : ∀ j, W0.frozen? ⟨w.heap.size + 1, j, none⟩ = false := fun j => (hn2 j).2.2
  have hrb : w.heap.size + 1 < W0.heap.size := cell_lt r0
  have HE0 := hide E0
  have S0 := S.keep E0
  have HS0 := hide S0
  have HR0 := hide r0
  have HR1 := hide r1
  have HR2 := hide r2
  have HR3 := hide r3
  have HRF := hide rf
  have CK := hide (fun W => isKey_ok key W)
  clear S Fi hW0 hn2 E0 S0
  have HT := hide (show ∀ (wr : World) (σ' : Sto), Became b0 W0 p g v σ wr σ' → σ'.N = σ.N → (wr.cell? ⟨w.heap.size + 1, 0, none⟩ = some (.string ⟨#[]⟩) ∧ wr.cell? ⟨w.heap.size + 1, 1, none⟩ = some (.int .i64 0) ∧ wr.cell? ⟨w.heap.size + 1, 2, none⟩ = some (.int .i64 0) ∧ wr.cell? ⟨w.heap.size + 1, 3, none⟩ = some (.int .i64 0) ∧ ∀ j, wr.frozen? ⟨w.heap.size + 1, j, none⟩ = false) ∧
      ∀ u0 u1 u2 u3, Became b0 w p g v σ ((((wr.setCell ⟨w.heap.size + 1, 0, none⟩ u0).setCell ⟨w.heap.size + 1, 1, none⟩ u1).setCell ⟨w.heap.size + 1, 2, none⟩ u2).setCell ⟨w.heap.size + 1, 3, none⟩ u3) σ' from fun wr σ' B hN => by
    have hnf : ¬ foot p g v σ.N (w.heap.size + 1) := unhide HNF _ (by omega)
    refine ⟨?_, fun u0 u1 u2 u3 => Became.tell (Only.of_ext (unhide HE0)) B rfl hN (by omega) hrb hnf u0 u1 u2 u3⟩
    obtain ⟨v', S', O', F'⟩ := B
    exact ⟨O'.keepc (unhide HR0) hnf, O'.keepc (unhide HR1) hnf, O'.keepc (unhide HR2) hnf, O'.keepc (unhide HR3) hnf, fun j => (World.frozen?_of_block (a := ⟨w.heap.size + 1, j, none⟩) (O'.block _ hrb hnf)).trans (unhide HRF j)⟩)
  unfold deedV
  by_cases h1 : kind < 1
  · have HP := hide (doS_bad (σ := σ) (n := n) (s := s) (key := key) (kind := kind) (.inl h1))
    have h3 : kind ≤ 3 := by omega
    clear HT
    go_enter Tryz.func45, Tryz.ntmps45
    go_wp2
    refine bodyPost_ret (v := .tuple #[.agg #[.string ⟨#[]⟩, .int .i64 0, .int .i64 0, .int .i64 0], .int .i64 1]) (by simp [results, Tryz.results45, go_sem]) rfl ?_
    rw [unhide HP]
    exact ⟨rfl, Became.of_ext (unhide HS) (by have := unhide HE0; rw [unhide HW0] at this; exact this)⟩
  by_cases h8 : 8 < kind
  · have HP := hide (doS_bad (σ := σ) (n := n) (s := s) (key := key) (kind := kind) (.inr (.inl h8)))
    have h3 : ¬ kind ≤ 3 := by omega
    have e8 : (kind == 8) = false := by rw [beq_eq_false_iff_ne]; omega
    have e7 : (kind == 7) = false := by rw [beq_eq_false_iff_ne]; omega
    clear HT
    go_enter Tryz.func45, Tryz.ntmps45
    go_wp2
    refine bodyPost_ret (v := .tuple #[.agg #[.string ⟨#[]⟩, .int .i64 0, .int .i64 0, .int .i64 0], .int .i64 1]) (by simp [results, Tryz.results45, go_sem]) rfl ?_
    rw [unhide HP]
    exact ⟨rfl, Became.of_ext (unhide HS) (by have := unhide HE0; rw [unhide HW0] at this; exact this)⟩
  have hcases : kind = 4 ∨ kind = 5 ∨ kind = 6 ∨ kind = 1 ∨ kind = 2 ∨ kind = 3 ∨ kind = 7 ∨ kind = 8 := by omega
  rcases hcases with rfl | rfl | rfl | hcases
  · have HP := hide (show σ.doS 4 key n s = σ.atS 4 key n from by rw [doS_ok (by rintro (h | h | h) <;> first | omega | (have := h.1; unfold Sto.keyed at this; omega)), if_neg (by decide), if_neg (by decide), if_neg (by decide), if_neg (by decide)])
    have CP := hide (show ∀ W, Ext w W → Calls Tryz.prog 65 #[.pointer (some ⟨p, 0, none⟩), .agg #[.int .i64 4, .int .i64 key, .int .i64 n, .string s]] W fun e w' => e = .returned (.int .i64 (σ.atS 4 key n).1.err) ∧ Became b0 W p g v σ w' (σ.atS 4 key n).2 from fun W E => at_ok ((unhide HS).keep E) (unhide HF) 4 key n s (.inl rfl))
    have hN := atS_N σ 4 key n
    have HNO := hide (atS_no σ 4 key n)
    clear CK
    go_enter Tryz.func45, Tryz.ntmps45
    go_wp2_with fail
    rw [← unhide HW0]
    refine (unhide CP _ (unhide HE0)).mono ?_
    rintro e w2 ⟨rfl, B2⟩
    obtain ⟨⟨z0, z1, z2, z3, zf⟩, HB⟩ := unhide HT _ _ B2 hN
    have HBB := hide HB
    obtain ⟨er, her⟩ : ∃ er, er = (σ.atS 4 key n).1.err := ⟨_, rfl⟩
    rw [← her]
    rw [← her] at HNO
    clear B2 HB d0 d1 d2 d3 r0 r1 r2 r3 rf HT CP her
    go_wp2
    refine bodyPost_ret (v := .tuple #[.agg #[.string ⟨#[]⟩, .int .i64 0, .int .i64 0, .int .i64 0], .int .i64 er]) (by simp [results, Tryz.results45, go_sem, World.cell?_setCell_same', z0, z1, z2, z3]) rfl ?_
    have HB4 := hide (unhide HBB (.string ⟨#[]⟩) (.int .i64 0) (.int .i64 0) (.int .i64 0))
    rw [unhide HP, unhide HNO]
    exact ⟨rfl, by first | exact unhide HB4 | (have h := unhide HB4; exact h)⟩
  · have HP := hide (show σ.doS 5 key n s = σ.atS 5 key n from by rw [doS_ok (by rintro (h | h | h) <;> first | omega | (have := h.1; unfold Sto.keyed at this; omega)), if_neg (by decide), if_neg (by decide), if_neg (by decide), if_neg (by decide)])
    have CP := hide (show ∀ W, Ext w W → Calls Tryz.prog 65 #[.pointer (some ⟨p, 0, none⟩), .agg #[.int .i64 5, .int .i64 key, .int .i64 n, .string s]] W fun e w' => e = .returned (.int .i64 (σ.atS 5 key n).1.err) ∧ Became b0 W p g v σ w' (σ.atS 5 key n).2 from fun W E => at_ok ((unhide HS).keep E) (unhide HF) 5 key n s (.inr (.inl rfl)))
    have hN := atS_N σ 5 key n
    have HNO := hide (atS_no σ 5 key n)
    clear CK
    go_enter Tryz.func45, Tryz.ntmps45
    go_wp2_with fail
    rw [← unhide HW0]
    refine (unhide CP _ (unhide HE0)).mono ?_
    rintro e w2 ⟨rfl, B2⟩
    obtain ⟨⟨z0, z1, z2, z3, zf⟩, HB⟩ := unhide HT _ _ B2 hN
    have HBB := hide HB
    obtain ⟨er, her⟩ : ∃ er, er = (σ.atS 5 key n).1.err := ⟨_, rfl⟩
    rw [← her]
    rw [← her] at HNO
    clear B2 HB d0 d1 d2 d3 r0 r1 r2 r3 rf HT CP her
    go_wp2
    refine bodyPost_ret (v := .tuple #[.agg #[.string ⟨#[]⟩, .int .i64 0, .int .i64 0, .int .i64 0], .int .i64 er]) (by simp [results, Tryz.results45, go_sem, World.cell?_setCell_same', z0, z1, z2, z3]) rfl ?_
    have HB4 := hide (unhide HBB (.string ⟨#[]⟩) (.int .i64 0) (.int .i64 0) (.int .i64 0))
    rw [unhide HP, unhide HNO]
    exact ⟨rfl, by first | exact unhide HB4 | (have h := unhide HB4; exact h)⟩
  · have HP := hide (show σ.doS 6 key n s = σ.atS 6 key n from by rw [doS_ok (by rintro (h | h | h) <;> first | omega | (have := h.1; unfold Sto.keyed at this; omega)), if_neg (by decide), if_neg (by decide), if_neg (by decide), if_neg (by decide)])
    have CP := hide (show ∀ W, Ext w W → Calls Tryz.prog 65 #[.pointer (some ⟨p, 0, none⟩), .agg #[.int .i64 6, .int .i64 key, .int .i64 n, .string s]] W fun e w' => e = .returned (.int .i64 (σ.atS 6 key n).1.err) ∧ Became b0 W p g v σ w' (σ.atS 6 key n).2 from fun W E => at_ok ((unhide HS).keep E) (unhide HF) 6 key n s (.inr (.inr (.inl rfl))))
    have hN := atS_N σ 6 key n
    have HNO := hide (atS_no σ 6 key n)
    clear CK
    go_enter Tryz.func45, Tryz.ntmps45
    go_wp2_with fail
    rw [← unhide HW0]
    refine (unhide CP _ (unhide HE0)).mono ?_
    rintro e w2 ⟨rfl, B2⟩
    obtain ⟨⟨z0, z1, z2, z3, zf⟩, HB⟩ := unhide HT _ _ B2 hN
    have HBB := hide HB
    obtain ⟨er, her⟩ : ∃ er, er = (σ.atS 6 key n).1.err := ⟨_, rfl⟩
    rw [← her]
    rw [← her] at HNO
    clear B2 HB d0 d1 d2 d3 r0 r1 r2 r3 rf HT CP her
    go_wp2
    refine bodyPost_ret (v := .tuple #[.agg #[.string ⟨#[]⟩, .int .i64 0, .int .i64 0, .int .i64 0], .int .i64 er]) (by simp [results, Tryz.results45, go_sem, World.cell?_setCell_same', z0, z1, z2, z3]) rfl ?_
    have HB4 := hide (unhide HBB (.string ⟨#[]⟩) (.int .i64 0) (.int .i64 0) (.int .i64 0))
    rw [unhide HP, unhide HNO]
    exact ⟨rfl, by first | exact unhide HB4 | (have h := unhide HB4; exact h)⟩
  · by_cases hk : Sto.isKey key
    · rw [decide_eq_true hk] at CK
      obtain ⟨k, rfl⟩ : ∃ k : Nat, key = (k : Int) := ⟨key.toNat, by unfold Sto.isKey at hk; omega⟩
      have hk3 : k < 3 := by unfold Sto.isKey at hk; omega
      have HK := hide hk
      clear hk h1 h8
      rcases hcases with rfl | rfl | rfl | rfl | rfl
      · have HP := hide (show σ.doS 1 (k : Int) n s = σ.putS k s from by rw [doS_ok (by have := unhide HK; rintro (h | h | h) <;> first | omega | exact h.2 this), if_pos rfl, Int.toNat_natCast])
        have CP := hide (show ∀ W, Ext w W → Calls Tryz.prog 62 #[.pointer (some ⟨p, 0, none⟩), .agg #[.int .i64 1, .int .i64 (k : Int), .int .i64 n, .string s]] W fun e w' => e = .returned (tellV (σ.putS k s).1) ∧ Became b0 W p g v σ w' (σ.putS k s).2 from fun W E => put_ok ((unhide HS).keep E) (unhide HF) 1 n k hk3 s hss)
        have hN := putS_N σ k s
        clear CK
        go_enter Tryz.func45, Tryz.ntmps45
        go_wp2_with fail
        rw [← unhide HW0]
        refine (isKey_ok (k : Int) _).mono ?_
        rintro e w1 ⟨rfl, rfl⟩
        rw [decide_eq_true (unhide HK)]
        go_wp2_with fail
        refine (unhide CP _ (unhide HE0)).mono ?_
        rintro e w2 ⟨rfl, B2⟩
        obtain ⟨⟨z0, z1, z2, z3, zf⟩, HB⟩ := unhide HT _ _ B2 hN
        have HBB := hide HB
        clear B2 HB d0 d1 d2 d3 r0 r1 r2 r3 rf HT CP
        obtain ⟨an, han⟩ : ∃ a, a = (σ.putS k s).1 := ⟨_, rfl⟩
        rw [← han]
        have HAN := hide han
        clear han
        obtain ⟨tx, at_, mn, er⟩ := an
        rw [show tellV ⟨tx, at_, mn, er⟩ = .tuple #[.agg #[.string tx, .int .i64 (at_ : Int), .int .i64 0, .int .i64 (mn : Int)], .int .i64 er] from rfl]
        go_wp2
        refine bodyPost_ret (v := .tuple #[.agg #[.string tx, .int .i64 (at_ : Int), .int .i64 0, .int .i64 (mn : Int)], .int .i64 er]) (by simp [results, Tryz.results45, go_sem, World.cell?_setCell_same', z0, z1, z2, z3]) rfl ?_
        have HB4 := hide (unhide HBB (.string tx) (.int .i64 (at_ : Int)) (.int .i64 0) (.int .i64 (mn : Int)))
        rw [unhide HP]
        exact ⟨by rw [← unhide HAN]; rfl, unhide HB4⟩
      · have HP := hide (show σ.doS 2 (k : Int) n s = σ.tornS k n s from by rw [doS_ok (by have := unhide HK; rintro (h | h | h) <;> first | omega | exact h.2 this), if_neg (by decide), if_pos rfl, Int.toNat_natCast])
        have CP := hide (show ∀ W, Ext w W → Calls Tryz.prog 63 #[.pointer (some ⟨p, 0, none⟩), .agg #[.int .i64 2, .int .i64 (k : Int), .int .i64 n, .string s]] W fun e w' => e = .returned (tellV (σ.tornS k n s).1) ∧ Became b0 W p g v σ w' (σ.tornS k n s).2 from fun W E => torn_ok ((unhide HS).keep E) (unhide HF) 2 n k hk3 s hss)
        have hN := tornS_N σ k n s
        clear CK
        go_enter Tryz.func45, Tryz.ntmps45
        go_wp2_with fail
        rw [← unhide HW0]
        refine (isKey_ok (k : Int) _).mono ?_
        rintro e w1 ⟨rfl, rfl⟩
        rw [decide_eq_true (unhide HK)]
        go_wp2_with fail
        refine (unhide CP _ (unhide HE0)).mono ?_
        rintro e w2 ⟨rfl, B2⟩
        obtain ⟨⟨z0, z1, z2, z3, zf⟩, HB⟩ := unhide HT _ _ B2 hN
        have HBB := hide HB
        clear B2 HB d0 d1 d2 d3 r0 r1 r2 r3 rf HT CP
        obtain ⟨an, han⟩ : ∃ a, a = (σ.tornS k n s).1 := ⟨_, rfl⟩
        rw [← han]
        have HAN := hide han
        clear han
        obtain ⟨tx, at_, mn, er⟩ := an
        rw [show tellV ⟨tx, at_, mn, er⟩ = .tuple #[.agg #[.string tx, .int .i64 (at_ : Int), .int .i64 0, .int .i64 (mn : Int)], .int .i64 er] from rfl]
        go_wp2
        refine bodyPost_ret (v := .tuple #[.agg #[.string tx, .int .i64 (at_ : Int), .int .i64 0, .int .i64 (mn : Int)], .int .i64 er]) (by simp [results, Tryz.results45, go_sem, World.cell?_setCell_same', z0, z1, z2, z3]) rfl ?_
        have HB4 := hide (unhide HBB (.string tx) (.int .i64 (at_ : Int)) (.int .i64 0) (.int .i64 (mn : Int)))
        rw [unhide HP]
        exact ⟨by rw [← unhide HAN]; rfl, unhide HB4⟩
      · have HP := hide (show σ.doS 3 (k : Int) n s = σ.getS k from by rw [doS_ok (by have := unhide HK; rintro (h | h | h) <;> first | omega | exact h.2 this), if_neg (by decide), if_neg (by decide), if_pos rfl, Int.toNat_natCast])
        have CP := hide (show ∀ W, Ext w W → Calls Tryz.prog 64 #[.pointer (some ⟨p, 0, none⟩), .int .i64 (k : Int)] W fun e w' => e = .returned (.tuple #[.agg #[.string (readTx σ k), .int .i64 (readTt σ k : Int), .int .i64 0, .int .i64 0], .int .i64 (readTm σ k : Int), .int .i64 (σ.readE k)]) ∧ Became b0 W p g v σ w' (readTo σ k) from fun W E => by rw [← readV_eq]; exact read_ok ((unhide HS).keep E) (unhide HF) k hk3)
        have hN := readTo_N σ k
        have HTL := hide (getS_tell σ k)
        have HTR := hide (getS_read σ k)
        clear CK
        go_enter Tryz.func45, Tryz.ntmps45
        go_wp2_with fail
        rw [← unhide HW0]
        refine (isKey_ok (k : Int) _).mono ?_
        rintro e w1 ⟨rfl, rfl⟩
        rw [decide_eq_true (unhide HK)]
        go_wp2_with fail
        refine (unhide CP _ (unhide HE0)).mono ?_
        rintro e w2 ⟨rfl, B2⟩
        obtain ⟨tx, htx⟩ : ∃ tx, tx = readTx σ k := ⟨_, rfl⟩
        obtain ⟨tt, htt⟩ : ∃ tt, tt = readTt σ k := ⟨_, rfl⟩
        obtain ⟨tm, htm⟩ : ∃ tm, tm = readTm σ k := ⟨_, rfl⟩
        obtain ⟨er, her⟩ : ∃ er, er = σ.readE k := ⟨_, rfl⟩
        rw [← htx, ← htt, ← htm, ← her]
        rw [← htx, ← htt, ← her] at HTL
        have HTL2 := HTL
        clear htx htt htm her
        obtain ⟨⟨z0, z1, z2, z3, zf⟩, HB⟩ := unhide HT _ _ (B2.ext ((Ext.refl w2).alloc (.cells #[.string tx, .int .i64 (tt : Int), .int .i64 0, .int .i64 0] 67))) hN
        have HBB := hide HB
        clear B2 HB d0 d1 d2 d3 r0 r1 r2 r3 rf HT CP HTL
        go_wp2
        refine bodyPost_ret (v := .tuple #[.agg #[.string tx, .int .i64 (tt : Int), .int .i64 0, .int .i64 0], .int .i64 er]) (by simp [results, Tryz.results45, go_sem, World.cell?_setCell_same', z0, z1, z2, z3]) rfl ?_
        have HB4 := hide (unhide HBB (.string tx) (.int .i64 (tt : Int)) (.int .i64 0) (.int .i64 0))
        rw [unhide HP, unhide HTR]
        exact ⟨by rw [unhide HTL2], unhide HB4⟩
      · have HP := hide (show σ.doS 7 (k : Int) n s = σ.atS 7 (k : Int) n from by rw [doS_ok (by have := unhide HK; rintro (h | h | h) <;> first | omega | exact h.2 this), if_neg (by decide), if_neg (by decide), if_neg (by decide), if_neg (by decide)])
        have CP := hide (show ∀ W, Ext w W → Calls Tryz.prog 65 #[.pointer (some ⟨p, 0, none⟩), .agg #[.int .i64 7, .int .i64 (k : Int), .int .i64 n, .string s]] W fun e w' => e = .returned (.int .i64 (σ.atS 7 (k : Int) n).1.err) ∧ Became b0 W p g v σ w' (σ.atS 7 (k : Int) n).2 from fun W E => at_ok ((unhide HS).keep E) (unhide HF) 7 (k : Int) n s (.inr (.inr (.inr ⟨rfl, unhide HK⟩))))
        have hN := atS_N σ 7 (k : Int) n
        have HNO := hide (atS_no σ 7 (k : Int) n)
        clear CK
        go_enter Tryz.func45, Tryz.ntmps45
        go_wp2_with fail
        rw [← unhide HW0]
        refine (isKey_ok (k : Int) _).mono ?_
        rintro e w1 ⟨rfl, rfl⟩
        rw [decide_eq_true (unhide HK)]
        go_wp2_with fail
        refine (unhide CP _ (unhide HE0)).mono ?_
        rintro e w2 ⟨rfl, B2⟩
        obtain ⟨⟨z0, z1, z2, z3, zf⟩, HB⟩ := unhide HT _ _ B2 hN
        have HBB := hide HB
        obtain ⟨er, her⟩ : ∃ er, er = (σ.atS 7 (k : Int) n).1.err := ⟨_, rfl⟩
        rw [← her]
        rw [← her] at HNO
        clear B2 HB d0 d1 d2 d3 r0 r1 r2 r3 rf HT CP her
        go_wp2
        refine bodyPost_ret (v := .tuple #[.agg #[.string ⟨#[]⟩, .int .i64 0, .int .i64 0, .int .i64 0], .int .i64 er]) (by simp [results, Tryz.results45, go_sem, World.cell?_setCell_same', z0, z1, z2, z3]) rfl ?_
        have HB4 := hide (unhide HBB (.string ⟨#[]⟩) (.int .i64 0) (.int .i64 0) (.int .i64 0))
        rw [unhide HP, unhide HNO]
        exact ⟨rfl, by first | exact unhide HB4 | (have h := unhide HB4; exact h)⟩
      · have HP := hide (show σ.doS 8 (k : Int) n s = σ.scrubS k from by rw [doS_ok (by have := unhide HK; rintro (h | h | h) <;> first | omega | exact h.2 this), if_neg (by decide), if_neg (by decide), if_neg (by decide), if_pos rfl, Int.toNat_natCast])
        have CP := hide (show ∀ W, Ext w W → Calls Tryz.prog 64 #[.pointer (some ⟨p, 0, none⟩), .int .i64 (k : Int)] W fun e w' => e = .returned (.tuple #[.agg #[.string (readTx σ k), .int .i64 (readTt σ k : Int), .int .i64 0, .int .i64 0], .int .i64 (readTm σ k : Int), .int .i64 (σ.readE k)]) ∧ Became b0 W p g v σ w' (readTo σ k) from fun W E => by rw [← readV_eq]; exact read_ok ((unhide HS).keep E) (unhide HF) k hk3)
        have hN := readTo_N σ k
        have HTL := hide (scrubS_tell σ k)
        have HTR := hide (scrubS_read σ k)
        clear CK
        go_enter Tryz.func45, Tryz.ntmps45
        go_wp2_with fail
        rw [← unhide HW0]
        refine (isKey_ok (k : Int) _).mono ?_
        rintro e w1 ⟨rfl, rfl⟩
        rw [decide_eq_true (unhide HK)]
        go_wp2_with fail
        refine (unhide CP _ (unhide HE0)).mono ?_
        rintro e w2 ⟨rfl, B2⟩
        obtain ⟨tx, htx⟩ : ∃ tx, tx = readTx σ k := ⟨_, rfl⟩
        obtain ⟨tt, htt⟩ : ∃ tt, tt = readTt σ k := ⟨_, rfl⟩
        obtain ⟨tm, htm⟩ : ∃ tm, tm = readTm σ k := ⟨_, rfl⟩
        obtain ⟨er, her⟩ : ∃ er, er = σ.readE k := ⟨_, rfl⟩
        rw [← htx, ← htt, ← htm, ← her]
        rw [← htm, ← her] at HTL
        have HTL2 := HTL
        clear htx htt htm her
        obtain ⟨⟨z0, z1, z2, z3, zf⟩, HB⟩ := unhide HT _ _ (B2.ext ((Ext.refl w2).alloc (.cells #[.string tx, .int .i64 (tt : Int), .int .i64 0, .int .i64 0] 67))) hN
        have HBB := hide HB
        clear B2 HB d0 d1 d2 d3 r0 r1 r2 r3 rf HT CP HTL
        go_wp2
        refine bodyPost_ret (v := .tuple #[.agg #[.string ⟨#[]⟩, .int .i64 0, .int .i64 0, .int .i64 (tm : Int)], .int .i64 er]) (by simp [results, Tryz.results45, go_sem, World.cell?_setCell_same', z0, z1, z2, z3]) rfl ?_
        have HB4 := hide (unhide HBB (.string ⟨#[]⟩) (.int .i64 0) (.int .i64 0) (.int .i64 (tm : Int)))
        rw [unhide HP, unhide HTR]
        exact ⟨by rw [unhide HTL2], unhide HB4⟩
    · rw [decide_eq_false hk] at CK
      rcases hcases with rfl | rfl | rfl | rfl | rfl
      · have HP := hide (doS_bad (σ := σ) (n := n) (s := s) (key := key) (kind := 1) (.inr (.inr ⟨by unfold Sto.keyed; omega, hk⟩)))
        clear HT h1 h8
        go_enter Tryz.func45, Tryz.ntmps45
        go_wp2_with fail
        rw [← unhide HW0]
        refine (unhide CK _).mono ?_
        rintro e w1 ⟨rfl, rfl⟩
        go_wp2
        refine bodyPost_ret (v := .tuple #[.agg #[.string ⟨#[]⟩, .int .i64 0, .int .i64 0, .int .i64 0], .int .i64 1]) (by simp [results, Tryz.results45, go_sem, World.cell?_setCell_same', r0, r1, r2, r3]) rfl ?_
        rw [unhide HP]
        exact ⟨rfl, Became.of_ext (unhide HS) ((unhide HE0).set4 (by omega) _ _ _ _)⟩
      · have HP := hide (doS_bad (σ := σ) (n := n) (s := s) (key := key) (kind := 2) (.inr (.inr ⟨by unfold Sto.keyed; omega, hk⟩)))
        clear HT h1 h8
        go_enter Tryz.func45, Tryz.ntmps45
        go_wp2_with fail
        rw [← unhide HW0]
        refine (unhide CK _).mono ?_
        rintro e w1 ⟨rfl, rfl⟩
        go_wp2
        refine bodyPost_ret (v := .tuple #[.agg #[.string ⟨#[]⟩, .int .i64 0, .int .i64 0, .int .i64 0], .int .i64 1]) (by simp [results, Tryz.results45, go_sem, World.cell?_setCell_same', r0, r1, r2, r3]) rfl ?_
        rw [unhide HP]
        exact ⟨rfl, Became.of_ext (unhide HS) ((unhide HE0).set4 (by omega) _ _ _ _)⟩
      · have HP := hide (doS_bad (σ := σ) (n := n) (s := s) (key := key) (kind := 3) (.inr (.inr ⟨by unfold Sto.keyed; omega, hk⟩)))
        clear HT h1 h8
        go_enter Tryz.func45, Tryz.ntmps45
        go_wp2_with fail
        rw [← unhide HW0]
        refine (unhide CK _).mono ?_
        rintro e w1 ⟨rfl, rfl⟩
        go_wp2
        refine bodyPost_ret (v := .tuple #[.agg #[.string ⟨#[]⟩, .int .i64 0, .int .i64 0, .int .i64 0], .int .i64 1]) (by simp [results, Tryz.results45, go_sem, World.cell?_setCell_same', r0, r1, r2, r3]) rfl ?_
        rw [unhide HP]
        exact ⟨rfl, Became.of_ext (unhide HS) ((unhide HE0).set4 (by omega) _ _ _ _)⟩
      · have HP := hide (doS_bad (σ := σ) (n := n) (s := s) (key := key) (kind := 7) (.inr (.inr ⟨by unfold Sto.keyed; omega, hk⟩)))
        clear HT h1 h8
        go_enter Tryz.func45, Tryz.ntmps45
        go_wp2_with fail
        rw [← unhide HW0]
        refine (unhide CK _).mono ?_
        rintro e w1 ⟨rfl, rfl⟩
        go_wp2
        refine bodyPost_ret (v := .tuple #[.agg #[.string ⟨#[]⟩, .int .i64 0, .int .i64 0, .int .i64 0], .int .i64 1]) (by simp [results, Tryz.results45, go_sem, World.cell?_setCell_same', r0, r1, r2, r3]) rfl ?_
        rw [unhide HP]
        exact ⟨rfl, Became.of_ext (unhide HS) ((unhide HE0).set4 (by omega) _ _ _ _)⟩
      · have HP := hide (doS_bad (σ := σ) (n := n) (s := s) (key := key) (kind := 8) (.inr (.inr ⟨by unfold Sto.keyed; omega, hk⟩)))
        clear HT h1 h8
        go_enter Tryz.func45, Tryz.ntmps45
        go_wp2_with fail
        rw [← unhide HW0]
        refine (unhide CK _).mono ?_
        rintro e w1 ⟨rfl, rfl⟩
        go_wp2
        refine bodyPost_ret (v := .tuple #[.agg #[.string ⟨#[]⟩, .int .i64 0, .int .i64 0, .int .i64 0], .int .i64 1]) (by simp [results, Tryz.results45, go_sem, World.cell?_setCell_same', r0, r1, r2, r3]) rfl ?_
        rw [unhide HP]
        exact ⟨rfl, Became.of_ext (unhide HS) ((unhide HE0).set4 (by omega) _ _ _ _)⟩
end Go.Proofs.YtpenkbhljkmliaaGreatDoor

/-
  store.New; deeds one after the other; wholekeep.worked.
-/
set_option linter.unusedVariables false
set_option linter.unusedSimpArgs false
namespace Go.Proofs.YtpenkbhljkmliaaGreatDoor
open Go.RowKit Go.BigFrame

/-- What quorum.Check answers. -/
def qErr (n k x y : Int) : Int := if (1 ≤ n ∧ n ≤ 10) ∧ (1 ≤ k ∧ k ≤ n) ∧ (1 ≤ x ∧ x ≤ n) ∧ (1 ≤ y ∧ y ≤ n) then (if x + y < n + k then 9 else 0) else 1
set_option maxRecDepth 100000 in
set_option maxHeartbeats 2000000 in
theorem qchk_ok (n k x y : Int) (w : World) : Calls Tryz.prog 16 #[.agg #[.int .i64 n, .int .i64 k, .int .i64 x, .int .i64 y]] w fun e w' => e = .returned (.int .i64 (qErr n k x y)) ∧ Ext w w' := by
  have hmf : ∀ (fn : Fn) (first cap : Array Value) (w : World), (Instr.makeFunc fn first cap).run Tryz.prog w = .ok (.func fn first cap) w := fun _ _ _ _ => rfl
  by_cases h : (1 ≤ n ∧ n ≤ 10) ∧ (1 ≤ k ∧ k ≤ n) ∧ (1 ≤ x ∧ x ≤ n) ∧ (1 ≤ y ∧ y ≤ n)
  · unfold qErr
    rw [if_pos h]
    obtain ⟨hn, hk, hx, hy⟩ := h
    go_enter Tryz.func16, Tryz.ntmps16
    go_wp2
    all_goals
      go_ret
      exact ⟨rfl, (Ext.refl _).alloc _⟩
  · unfold qErr
    rw [if_neg h]
    have core : ∀ (_ : n < 1 ∨ (1 ≤ n ∧ 10 < n) ∨ (1 ≤ n ∧ n ≤ 10 ∧ k < 1) ∨ (1 ≤ n ∧ n ≤ 10 ∧ 1 ≤ k ∧ n < k) ∨ (1 ≤ n ∧ n ≤ 10 ∧ 1 ≤ k ∧ k ≤ n ∧ x < 1) ∨ (1 ≤ n ∧ n ≤ 10 ∧ 1 ≤ k ∧ k ≤ n ∧ 1 ≤ x ∧ n < x) ∨ (1 ≤ n ∧ n ≤ 10 ∧ 1 ≤ k ∧ k ≤ n ∧ 1 ≤ x ∧ x ≤ n ∧ y < 1) ∨ (1 ≤ n ∧ n ≤ 10 ∧ 1 ≤ k ∧ k ≤ n ∧ 1 ≤ x ∧ x ≤ n ∧ 1 ≤ y ∧ n < y)),
        Calls Tryz.prog 16 #[.agg #[.int .i64 n, .int .i64 k, .int .i64 x, .int .i64 y]] w fun e w' => e = .returned (.int .i64 1) ∧ Ext w w' := by
      clear h
      rintro (h | ⟨h1, h2⟩ | ⟨h1, h2, h3⟩ | ⟨h1, h2, h3, h4⟩ | ⟨h1, h2, h3, h4, h5⟩ | ⟨h1, h2, h3, h4, h5, h6⟩ | ⟨h1, h2, h3, h4, h5, h6, h7⟩ | ⟨h1, h2, h3, h4, h5, h6, h7, h8⟩)
      all_goals
        try have hd : decide (y ≤ n) = false := decide_eq_false (by omega)
        go_enter Tryz.func16, Tryz.ntmps16
        go_wp2
        go_ret
        exact ⟨rfl, (Ext.refl _).alloc _⟩
    exact core (by omega)

theorem nodeR : EInfo Tryz.prog 44 139 (.agg #[.bool false, .slice none 0 0, .slice none 0 0, .slice none 0 0]) 4 80 := EInfo.mk_ Tryz.underlying44 (by kernel_rfl) rfl (by omega)
theorem made_at (z : Array Value) (m : Nat) {j : Nat} (h : j < m) : (madeCells z m)[j]? = some (z[j % z.size]!) := by
  unfold madeCells
  simp [h]
/-- A store that has just been made. -/
theorem St.make (w : World) {b0 n : Nat} (k x y : Nat) (hb : b0 ≤ w.heap.size) : St b0 ((w.alloc (.cells (madeCells #[.bool false, .slice none 0 0, .slice none 0 0, .slice none 0 0] (n * 4)) 139)).alloc (.cells #[.int .i64 (n : Int), .int .i64 (k : Int), .int .i64 (x : Int), .int .i64 (y : Int), .slice (some ⟨w.heap.size, 0, none⟩) n n, .int .i64 0] 46))
    (w.heap.size + 1) w.heap.size (fun _ _ => .slice none 0 0) (Sto.new n k x y) := by
  have h2 := new2 w (madeCells #[.bool false, .slice none 0 0, .slice none 0 0, .slice none 0 0] (n * 4)) #[.int .i64 (n : Int), .int .i64 (k : Int), .int .i64 (x : Int), .int .i64 (y : Int), .slice (some ⟨w.heap.size, 0, none⟩) n n, .int .i64 0] 139 46
  have hsz : ((w.alloc (.cells (madeCells #[.bool false, .slice none 0 0, .slice none 0 0, .slice none 0 0] (n * 4)) 139)).alloc (.cells #[.int .i64 (n : Int), .int .i64 (k : Int), .int .i64 (x : Int), .int .i64 (y : Int), .slice (some ⟨w.heap.size, 0, none⟩) n n, .int .i64 0] 46)).heap.size = w.heap.size + 2 := by simp
  exact {
    p_lo := by omega
    p_hi := by rw [hsz]; omega
    g_lo := hb
    g_hi := by rw [hsz]; omega
    pg := by omega
    cN := (h2 0).2.1
    cK := (h2 1).2.1
    cW := (h2 2).2.1
    cR := (h2 3).2.1
    cnodes := (h2 4).2.1
    cwr := (h2 5).2.1
    fwr := (h2 5).2.2
    fg := fun j => (((Ext.refl (w.alloc (.cells (madeCells #[.bool false, .slice none 0 0, .slice none 0 0, .slice none 0 0] (n * 4)) 139))).alloc _).frozen (p := ⟨w.heap.size, j, none⟩) (by simp)).trans (new_frozen _ _ _ _)
    cdown := fun i hi => by
      have hi : i < n := hi
      rw [(h2 (i * 4)).1, made_at _ _ (by omega)]
      have : i * 4 % 4 = 0 := by omega
      show some ((#[Value.bool false, .slice none 0 0, .slice none 0 0, .slice none 0 0] : Array Value)[i * 4 % 4]!) = _
      rw [this]; rfl
    ckept := fun i j hi hj => by
      have hi : i < n := hi
      rw [(h2 (i * 4 + 1 + j)).1, made_at _ _ (by omega)]
      show some ((#[Value.bool false, .slice none 0 0, .slice none 0 0, .slice none 0 0] : Array Value)[(i * 4 + 1 + j) % 4]!) = _
      rcases (show j = 0 ∨ j = 1 ∨ j = 2 by omega) with rfl | rfl | rfl
      · rw [show (i * 4 + 1 + 0) % 4 = 1 by omega]; rfl
      · rw [show (i * 4 + 1 + 1) % 4 = 2 by omega]; rfl
      · rw [show (i * 4 + 1 + 2) % 4 = 3 by omega]; rfl
    own := fun i j hi hj => World.ownsRow_nil _ _ _ _
    offp := fun i j _ _ h => by cases h
    offg := fun i j _ _ h => by cases h
    apart := fun i j a b _ _ _ _ _ q h => by cases h }
set_option maxRecDepth 100000 in
set_option maxHeartbeats 2000000 in
theorem New_bad (n k x y : Int) (w : World) (h : qErr n k x y ≠ 0) : Calls Tryz.prog 11 #[.agg #[.int .i64 n, .int .i64 k, .int .i64 x, .int .i64 y]] w fun e w' => e = .returned (.tuple #[.pointer none, .int .i64 (qErr n k x y)]) ∧ Ext w w' := by
  have CQ := hide (fun W => qchk_ok n k x y W)
  have hB : (qErr n k x y != 0) = true := by rw [bne_iff_ne]; exact h
  clear h
  generalize qErr n k x y = r at *
  go_enter Tryz.func11, Tryz.ntmps11
  go_wp2_with fail
  refine (unhide CQ _).mono ?_
  rintro e w1 ⟨rfl, E1⟩
  go_wp2
  go_ret2
  exact ⟨rfl, ((Ext.refl w).alloc _).trans E1⟩
set_option maxRecDepth 100000 in
set_option maxHeartbeats 2000000 in
theorem New_ok (n k x y : Nat) (w : World) (h : qErr n k x y = 0) : Calls Tryz.prog 11 #[.agg #[.int .i64 (n : Int), .int .i64 (k : Int), .int .i64 (x : Int), .int .i64 (y : Int)]] w fun e w' =>
    (∃ p g v, e = .returned (.tuple #[.pointer (some ⟨p, 0, none⟩), .int .i64 0]) ∧ St w.heap.size w' p g v (Sto.new n k x y)) ∧ Ext w w' := by
  have hn : n ≤ 10 := by
    unfold qErr at h
    by_cases c : (1 ≤ (n : Int) ∧ (n : Int) ≤ 10) ∧ (1 ≤ (k : Int) ∧ (k : Int) ≤ n) ∧ (1 ≤ (x : Int) ∧ (x : Int) ≤ n) ∧ (1 ≤ (y : Int) ∧ (y : Int) ≤ n)
    · omega
    · rw [if_neg c] at h; omega
  have CQ := hide (fun W => qchk_ok n k x y W)
  rw [h] at CQ
  have hmk : ∀ w : World, (Instr.makeSlice 44 (.int .i64 (n : Int)) (.int .i64 (n : Int))).run Tryz.prog w = .ok (.slice (some ⟨w.heap.size, 0, none⟩) n n) (w.alloc (.cells (madeCells #[.bool false, .slice none 0 0, .slice none 0 0, .slice none 0 0] (n * 4)) 139)) := fun w =>
    make_run nodeR n n (Nat.le_refl _) (by omega) (by omega) w
  obtain ⟨W0, hW0⟩ : ∃ W0, W0 = w.alloc (.cells #[.int .i64 (n : Int), .int .i64 (k : Int), .int .i64 (x : Int), .int .i64 (y : Int)] 35) := ⟨_, rfl⟩
  have HW0 := hide hW0
  have E0 : Ext w W0 := by rw [hW0]; exact (Ext.refl w).alloc _
  have d0 : W0.cell? ⟨w.heap.size, 0, none⟩ = some (.int .i64 (n : Int)) := by rw [hW0, new_cell]; rfl
  have d1 : W0.cell? ⟨w.heap.size, 1, none⟩ = some (.int .i64 (k : Int)) := by rw [hW0, new_cell]; rfl
  have d2 : W0.cell? ⟨w.heap.size, 2, none⟩ = some (.int .i64 (x : Int)) := by rw [hW0, new_cell]; rfl
  have d3 : W0.cell? ⟨w.heap.size, 3, none⟩ = some (.int .i64 (y : Int)) := by rw [hW0, new_cell]; rfl
  have HE0 := hide E0
  clear hW0 h
  go_enter Tryz.func11, Tryz.ntmps11
  go_wp2_with fail
  rw [← unhide HW0]
  refine (unhide CQ _).mono ?_
  rintro e w1 ⟨rfl, E1⟩
  have d0 := E1.keep d0
  have d1 := E1.keep d1
  have d2 := E1.keep d2
  have d3 := E1.keep d3
  have d0A := fun o => ((Ext.refl w1).alloc o).keep d0
  have d1A := fun o => ((Ext.refl w1).alloc o).keep d1
  have d2A := fun o => ((Ext.refl w1).alloc o).keep d2
  have d3A := fun o => ((Ext.refl w1).alloc o).keep d3
  have HE1 := hide ((unhide HE0).trans E1)
  clear CQ E1
  go_upto_region 4 with fail
  apply share
  · intro H
    go_region_law (fail)
    all_goals exact H
  go_wp2
  go_ret2
  exact ⟨⟨w1.heap.size + 1, w1.heap.size, fun _ _ => .slice none 0 0, rfl, (St.make w1 k x y (unhide HE1).size).keep (Ext.refl _).drew⟩, (((unhide HE1).alloc _).alloc _).drew⟩
end Go.Proofs.YtpenkbhljkmliaaGreatDoor

/-
  Deeds one after the other (plain); the laws' own example.
-/
set_option linter.unusedVariables false
set_option linter.unusedSimpArgs false
namespace Go.Proofs.YtpenkbhljkmliaaGreatDoor
open Go.RowKit Go.BigFrame

namespace Sto
theorem Ok.fine {σ : Sto} {H : Nat → Nat × ByteArray} (O : Ok σ H) : Fine σ where
  k1 := O.k1
  kn := O.kn
  n10 := O.n10
  few := O.few
  len i k hi hk := Nat.le_trans (O.len hi hk) O.few
  sz i k e hi hk he := O.size hi hk he
def ddo (σ : Sto) (d : Dd) : Ans × Sto := σ.doS d.kind d.key d.n d.s
def run (σ : Sto) (l : List Dd) : Sto := l.foldl (fun σ d => (σ.ddo d).2) σ
theorem run_nil (σ : Sto) : σ.run [] = σ := rfl
theorem run_snoc (σ : Sto) (l : List Dd) (d : Dd) : σ.run (l ++ [d]) = ((σ.run l).ddo d).2 := by simp [run]
theorem run_take (σ : Sto) (l : List Dd) {x : Nat} (h : x < l.length) : σ.run (l.take (x + 1)) = ((σ.run (l.take x)).ddo (dg l x)).2 := by
  rw [take_snoc l Dd.no h, run_snoc]; rfl
theorem doS_N (σ : Sto) (kind key n : Int) (s : ByteArray) : (σ.doS kind key n s).2.N = σ.N := by
  refine doS_cases σ kind key n s (P := fun r => r.2.N = σ.N) (fun _ => rfl) (fun _ _ => putS_N _ _ _) (fun _ _ => tornS_N _ _ _ _) (fun _ _ => ?_) (fun _ _ => ?_) (fun _ => atS_N _ _ _ _)
  · rw [getS_read]; exact readTo_N _ _
  · rw [scrubS_read]; exact readTo_N _ _
theorem Ok.runs {σ : Sto} {H : Nat → Nat × ByteArray} (O : Ok σ H) (l : List Dd) : ∃ H', Ok (σ.run l) H' := by
  refine rev_induct (P := fun l => ∃ H', Ok (σ.run l) H') ⟨H, O⟩ (fun l d ⟨H', h⟩ => ?_) l
  rw [run_snoc]
  exact ⟨_, h.do_ d.kind d.key d.n d.s⟩
theorem run_N (σ : Sto) (l : List Dd) : (σ.run l).N = σ.N := by
  refine rev_induct (P := fun l => (σ.run l).N = σ.N) rfl (fun l d h => ?_) l
  rw [run_snoc]
  exact (doS_N _ _ _ _ _).trans h
end Sto
/-- The numbers of a quorum that is right. -/
theorem qErr_nat {n k x y : Int} (h : qErr n k x y = 0) : ∃ N K W R : Nat, n = N ∧ k = K ∧ x = W ∧ y = R ∧ qErr N K W R = 0 ∧ (1 ≤ K ∧ K ≤ N) ∧ N ≤ 10 ∧ (1 ≤ W ∧ W ≤ N) ∧ (1 ≤ R ∧ R ≤ N) ∧ N + K ≤ W + R := by
  have h0 := h
  unfold qErr at h
  by_cases c : (1 ≤ n ∧ n ≤ 10) ∧ (1 ≤ k ∧ k ≤ n) ∧ (1 ≤ x ∧ x ≤ n) ∧ (1 ≤ y ∧ y ≤ n)
  · rw [if_pos c] at h
    obtain ⟨N, rfl⟩ : ∃ N : Nat, n = N := ⟨n.toNat, by omega⟩
    obtain ⟨K, rfl⟩ : ∃ K : Nat, k = K := ⟨k.toNat, by omega⟩
    obtain ⟨W, rfl⟩ : ∃ W : Nat, x = W := ⟨x.toNat, by omega⟩
    obtain ⟨R, rfl⟩ : ∃ R : Nat, y = R := ⟨y.toNat, by omega⟩
    by_cases d : (W : Int) + R < N + K
    · rw [if_pos d] at h; exact absurd h (by decide)
    · exact ⟨N, K, W, R, rfl, rfl, rfl, rfl, h0, by omega, by omega, by omega, by omega, by omega⟩
  · rw [if_neg c] at h; exact absurd h (by decide)
theorem okNew {N K W R : Nat} (h1 : 1 ≤ K ∧ K ≤ N) (h2 : N ≤ 10) (h3 : 1 ≤ W ∧ W ≤ N) (h4 : 1 ≤ R ∧ R ≤ N) (h5 : N + K ≤ W + R) : Sto.Ok (Sto.new N K W R) (fun _ => (0, ByteArray.empty)) := Sto.Ok.start h1 h2 h3 h4 h5 _

/-! ### The example -/
def abc : ByteArray := ⟨#[97, 98, 99]⟩
def kσ : Sto := Sto.new 4 2 3 3
def kσ1 : Sto := (kσ.doS 1 1 0 abc).2
def kσ2 : Sto := (kσ1.doS 4 0 0 ⟨#[]⟩).2
theorem kept_plain : (kσ.doS 1 1 0 abc).1 = ⟨⟨#[]⟩, 1, 0, 0⟩ ∧ (kσ1.doS 4 0 0 ⟨#[]⟩).1 = ⟨⟨#[]⟩, 0, 0, 0⟩ ∧ (kσ2.doS 3 1 0 ⟨#[]⟩).1 = ⟨abc, 1, 0, 0⟩ ∧ Fine kσ ∧ Fine kσ1 ∧ Fine kσ2 := by
  have O0 : Sto.Ok kσ (fun _ => (0, ByteArray.empty)) := okNew (by omega) (by omega) (by omega) (by omega) (by omega)
  have hk : Sto.isKey 1 := by unfold Sto.isKey; omega
  have hs : kσ.splitE abc = 0 := by decide +kernel
  have ha : kσ.doS 1 1 0 abc = (⟨ByteArray.empty, 1, 0, 0⟩, { kσ with wr := 1, kept := kσ.putK 1 abc kσ.ups }) := by
    rw [doS_ok (by rintro (h | h | h); · omega
                   · omega
                   · exact h.2 hk), if_pos rfl]
    unfold Sto.putS
    rw [show (1 : Int).toNat = 1 from rfl, hs, if_neg (by decide)]
    rfl
  have O1 := O0.do_ 1 1 0 abc
  have S1 := (Sto.stands_told O0 1 1 0 abc (.inl rfl) (by rw [ha])).2
  have hw1 : kσ1.wr = 1 := by unfold kσ1; rw [ha]
  have hN1 : kσ1.N = 4 := by unfold kσ1; rw [ha]; rfl
  have hd1 : kσ1.down = fun _ => false := by unfold kσ1; rw [ha]; rfl
  have hH1 : Sto.hist kσ (fun _ => (0, ByteArray.empty)) 1 1 0 abc 1 = (1, abc) := by
    unfold Sto.hist
    rw [ha, if_neg (by show ¬ (1 : Nat) = 0; omega)]
    exact Sto.ext_same _ _ _ _
  have hb : kσ1.doS 4 0 0 ⟨#[]⟩ = (Ans.no 0, { kσ1 with down := fun i => if i = (0 : Int).toNat then true else kσ1.down i }) := by
    rw [doS_ok (by rintro (h | h | h)
                   · omega
                   · omega
                   · have := h.1; unfold Sto.keyed at this; omega), if_neg (by decide), if_neg (by decide), if_neg (by decide), if_neg (by decide)]
    unfold Sto.atS
    rw [if_neg (by unfold Sto.isNode; rw [hN1]; omega), if_pos rfl]
  have O2 := O1.do_ 4 0 0 ⟨#[]⟩
  obtain ⟨T', hT, S2, -⟩ := S1.step O1 (by show 1 < 3; omega) 4 0 0 ⟨#[]⟩ (by decide) (by decide)
  have hw2 : kσ2.wr = 1 := by unfold kσ2; rw [hb]; exact hw1
  have hu : kσ2.ups.length = 3 := by
    have h1 : kσ2.N = 4 := by unfold kσ2; rw [hb]; exact hN1
    have h2 : kσ2.down = fun i => if i = 0 then true else false := by unfold kσ2; rw [hb]; show (fun i => if i = (0 : Int).toNat then true else kσ1.down i) = _; rw [hd1]; rfl
    unfold Sto.ups
    rw [h1, h2]
    decide
  have hR2 : kσ2.R = 3 := by unfold kσ2; rw [hb]; show kσ1.R = 3; unfold kσ1; rw [ha]; rfl
  have hW2 : kσ2.W = 3 := by unfold kσ2; rw [hb]; show kσ1.W = 3; unfold kσ1; rw [ha]; rfl
  have hH2 : Sto.hist kσ1 (Sto.hist kσ (fun _ => (0, ByteArray.empty)) 1 1 0 abc) 4 0 0 ⟨#[]⟩ 1 = (1, abc) := by
    rw [Sto.hist_old _ _ _ _ (by rw [hw1]; exact Nat.le_refl _)]; exact hH1
  have hre : kσ2.readE 1 = 0 := by
    rcases Sto.Stands.read S2 O2 (by show 1 < 3; omega) with h | h
    · exfalso
      have h : kσ2.readE 1 = 9 := h
      unfold Sto.readE at h
      rw [if_neg (by rw [hu, hR2, hW2]; omega)] at h
      by_cases c : (kσ2.newest 1).isNone = true
      · rw [if_pos c] at h; exact absurd h (by decide)
      · rw [if_neg c] at h; exact absurd h (by decide)
    · exact h.1
  have hc : (kσ2.doS 3 1 0 ⟨#[]⟩).1 = ⟨kσ2.readText 1, kσ2.readAt 1, 0, 0⟩ := by
    rw [doS_ok (by rintro (h | h | h); · omega
                   · omega
                   · exact h.2 hk), if_neg (by decide), if_neg (by decide), if_pos rfl]
    unfold Sto.getS
    rw [show (1 : Int).toNat = 1 from rfl, hre, if_neg (by decide)]
  obtain ⟨t, h1, h2, h3, h4, h5, -⟩ := Sto.Ok.readText_small O2 (show 1 < 3 by omega) hre
  have h5 : t ≤ kσ2.wr := h5
  rw [hw2] at h5
  obtain rfl : t = 1 := by omega
  refine ⟨by rw [ha]; rfl, by rw [hb]; rfl, ?_, O0.fine, O1.fine, O2.fine⟩
  rw [hc]
  have h2 : kσ2.readAt 1 = 1 := h2
  have h3 : kσ2.readText 1 = abc := h3.trans (congrArg Prod.snd hH2)
  rw [h2, h3]
end Go.Proofs.YtpenkbhljkmliaaGreatDoor
