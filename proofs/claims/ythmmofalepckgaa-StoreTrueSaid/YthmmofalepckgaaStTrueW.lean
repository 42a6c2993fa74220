import Derived.Test.YthmmofalepckgaaSto15
import Derived.Test.YthmmofalepckgaaSto13
import Derived.Test.YthmmofalepckgaaSto3
import Derived.Test.YthmmofalepckgaaDeeds
import Derived.Test.YthmmofalepckgaaArith1
import Derived.Test.YthmmofalepckgaaLaw
import Derived.Maps.OwnSet
import Derived.DeepKeys4
/-
  The contract of (*Store).Do.
-/
set_option linter.unusedVariables false
set_option linter.unusedSimpArgs false
namespace Go.Proofs.Ythmmofalepckgaa
open Go.RowKit Go.BigFrame

theorem putS_N (σ : Sto) (key : Nat) (s : ByteArray) : (σ.putS key s).2.N = σ.N := by unfold Sto.putS; split <;> rfl
theorem tornS_N (σ : Sto) (key : Nat) (n : Int) (s : ByteArray) : (σ.tornS key n s).2.N = σ.N := by unfold Sto.tornS; split <;> rfl
theorem readTo_N (σ : Sto) (key : Nat) : (readTo σ key).N = σ.N := by unfold readTo; split <;> rfl
theorem atS_N (σ : Sto) (kind key n : Int) : (σ.atS kind key n).2.N = σ.N := by
  unfold Sto.atS
  split
  · rfl
  · split
    · rfl
    · split
      · rfl
      · split
        · rfl
        · split <;> rfl
theorem getS_read (σ : Sto) (key : Nat) : (σ.getS key).2 = readTo σ key := by unfold Sto.getS readTo; split <;> rfl
theorem scrubS_read (σ : Sto) (key : Nat) : (σ.scrubS key).2 = readTo σ key := by unfold Sto.scrubS readTo; split <;> rfl
/-- What a read tells, its three answers. -/
def readTx (σ : Sto) (key : Nat) : ByteArray := if σ.readE key ≠ 0 then ⟨#[]⟩ else σ.readText key
def readTt (σ : Sto) (key : Nat) : Nat := if σ.readE key ≠ 0 then 0 else σ.readAt key
def readTm (σ : Sto) (key : Nat) : Nat := if σ.readE key ≠ 0 then 0 else σ.readMany key
theorem readV_eq (σ : Sto) (key : Nat) : readV σ key = .tuple #[.agg #[.string (readTx σ key), .int .i64 (readTt σ key : Int), .int .i64 0, .int .i64 0], .int .i64 (readTm σ key : Int), .int .i64 (σ.readE key)] := by
  unfold readV readTx readTt readTm
  by_cases h : σ.readE key = 0
  · rw [if_neg (by simpa using h), if_neg (by simpa using h), if_neg (by simpa using h), if_neg (by simpa using h), h]
  · rw [if_pos h, if_pos h, if_pos h, if_pos h]; rfl
theorem getS_tell (σ : Sto) (key : Nat) : tellV (σ.getS key).1 = .tuple #[.agg #[.string (readTx σ key), .int .i64 (readTt σ key : Int), .int .i64 0, .int .i64 0], .int .i64 (σ.readE key)] := by
  unfold Sto.getS readTx readTt
  by_cases h : σ.readE key = 0
  · rw [if_neg (by simpa using h), if_neg (by simpa using h), if_neg (by simpa using h), h]; rfl
  · rw [if_pos h, if_pos h, if_pos h]; rfl
theorem scrubS_tell (σ : Sto) (key : Nat) : tellV (σ.scrubS key).1 = .tuple #[.agg #[.string ⟨#[]⟩, .int .i64 0, .int .i64 0, .int .i64 (readTm σ key : Int)], .int .i64 (σ.readE key)] := by
  unfold Sto.scrubS readTm
  by_cases h : σ.readE key = 0
  · rw [if_neg (by simpa using h), if_neg (by simpa using h), h]; rfl
  · rw [if_pos h, if_pos h]; rfl
theorem atS_no (σ : Sto) (kind key n : Int) : (σ.atS kind key n).1 = Ans.no (σ.atS kind key n).1.err := by
  unfold Sto.atS
  split
  · rfl
  · split
    · rfl
    · split
      · rfl
      · split
        · rfl
        · split <;> rfl
theorem new2 (w : World) (a b : Array Value) (A B : TypeId) (j : Nat) : ((w.alloc (.cells a A)).alloc (.cells b B)).cell? ⟨w.heap.size, j, none⟩ = a[j]? ∧ ((w.alloc (.cells a A)).alloc (.cells b B)).cell? ⟨w.heap.size + 1, j, none⟩ = b[j]? ∧ ((w.alloc (.cells a A)).alloc (.cells b B)).frozen? ⟨w.heap.size + 1, j, none⟩ = false := by
  have s1 : (w.alloc (.cells a A)).heap.size = w.heap.size + 1 := by simp
  refine ⟨?_, ?_, ?_⟩
  · exact (((Ext.refl (w.alloc (.cells a A))).alloc (.cells b B)).cell (p := ⟨w.heap.size, j, none⟩) (by simp)).trans (new_cell w a A j)
  · rw [← s1]; exact new_cell _ b B j
  · rw [← s1]; exact new_frozen _ b B j
theorem doS_bad {σ : Sto} {kind key n : Int} {s : ByteArray} (h : kind < 1 ∨ 8 < kind ∨ (Sto.keyed kind ∧ ¬ Sto.isKey key)) : σ.doS kind key n s = (Ans.no 1, σ) := by unfold Sto.doS; rw [if_pos h]
theorem doS_ok {σ : Sto} {kind key n : Int} {s : ByteArray} (h : ¬ (kind < 1 ∨ 8 < kind ∨ (Sto.keyed kind ∧ ¬ Sto.isKey key))) : σ.doS kind key n s = if kind = 1 then σ.putS key.toNat s
  else if kind = 2 then σ.tornS key.toNat n s else if kind = 3 then σ.getS key.toNat else if kind = 8 then σ.scrubS key.toNat else σ.atS kind key n := by unfold Sto.doS; rw [if_neg h]

set_option maxRecDepth 100000 in
set_option maxHeartbeats 8000000 in
theorem do_ok {b0 p g : Nat} {w : World} {v : Nat → Nat → Value} {σ : Sto} (S : St b0 w p g v σ) (Fi : Fine σ) (kind key n : Int) (s : ByteArray) (hss : (s.size : Int) ≤ 9223372036854775807) :
    Calls Try.prog 7 #[.pointer (some ⟨p, 0, none⟩), deedV kind key n s] w fun e w' => e = .returned (tellV (σ.doS kind key n s).1) ∧ Became b0 w p g v σ w' (σ.doS kind key n s).2 := by
  have HS := hide S
  have HF := hide Fi
  have HNF := hide (show ∀ b, w.heap.size ≤ b → ¬ foot p g v σ.N b from fun b hb h => by have := S.foot_hi h; omega)
  obtain ⟨W0, hW0⟩ : ∃ W0, W0 = (w.alloc (.cells #[.int .i64 kind, .int .i64 key, .int .i64 n, .string s] 32)).alloc (.cells #[.string ⟨#[]⟩, .int .i64 0, .int .i64 0, .int .i64 0] 36) := ⟨_, rfl⟩
  have HW0 := hide hW0
  have hn2 := new2 w #[.int .i64 kind, .int .i64 key, .int .i64 n, .string s] #[.string ⟨#[]⟩, .int .i64 0, .int .i64 0, .int .i64 0] 32 36
  rw [← hW0] at hn2
  have E0 : Ext w W0 := by rw [hW0]; exact ((Ext.refl w).alloc _).alloc _
  have d0 : W0.cell? ⟨w.heap.size, 0, none⟩ = some (.int .i64 kind) := (hn2 0).1
  have d1 : W0.cell? ⟨w.heap.size, 1, none⟩ = some (.int .i64 key) := (hn2 1).1
  have d2 : W0.cell? ⟨w.heap.size, 2, none⟩ = some (.int .i64 n) := (hn2 2).1
  have d3 : W0.cell? ⟨w.heap.size, 3, none⟩ = some (.string s) := (hn2 3).1
  have r0 : W0.cell? ⟨w.heap.size + 1, 0, none⟩ = some (.string ⟨#[]⟩) := (hn2 0).2.1
  have r1 : W0.cell? ⟨w.heap.size + 1, 1, none⟩ = some (.int .i64 0) := (hn2 1).2.1
  have r2 : W0.cell? ⟨w.heap.size + 1, 2, none⟩ = some (.int .i64 0) := (hn2 2).2.1
  have r3 : W0.cell? ⟨w.heap.size + 1, 3, none⟩ = some (.int .i64 0) := (hn2 3).2.1
  have rf : ∀ j, W0.frozen? ⟨w.heap.size + 1, j, none⟩ = false := fun j => (hn2 j).2.2
  have hrb : w.heap.size + 1 < W0.heap.size := cell_lt r0
  have HE0 := hide E0
  have S0 := S.keep E0
  have HS0 := hide S0
  have HR0 := hide r0
  have HR1 := hide r1
  have HR2 := hide r2
  have HR3 := hide r3
  have HRF := hide rf
  have CK := hide (fun W => isKey_ok key W)
  clear S Fi hW0 hn2 E0 S0
  have HT := hide (show ∀ (wr : World) (σ' : Sto), Became b0 W0 p g v σ wr σ' → σ'.N = σ.N → (wr.cell? ⟨w.heap.size + 1, 0, none⟩ = some (.string ⟨#[]⟩) ∧ wr.cell? ⟨w.heap.size + 1, 1, none⟩ = some (.int .i64 0) ∧ wr.cell? ⟨w.heap.size + 1, 2, none⟩ = some (.int .i64 0) ∧ wr.cell? ⟨w.heap.size + 1, 3, none⟩ = some (.int .i64 0) ∧ ∀ j, wr.frozen? ⟨w.heap.size + 1, j, none⟩ = false) ∧
      ∀ u0 u1 u2 u3, Became b0 w p g v σ ((((wr.setCell ⟨w.heap.size + 1, 0, none⟩ u0).setCell ⟨w.heap.size + 1, 1, none⟩ u1).setCell ⟨w.heap.size + 1, 2, none⟩ u2).setCell ⟨w.heap.size + 1, 3, none⟩ u3) σ' from fun wr σ' B hN => by
    have hnf : ¬ foot p g v σ.N (w.heap.size + 1) := unhide HNF _ (by omega)
    refine ⟨?_, fun u0 u1 u2 u3 => Became.tell (Only.of_ext (unhide HE0)) B rfl hN (by omega) hrb hnf u0 u1 u2 u3⟩
    obtain ⟨v', S', O', F'⟩ := B
    exact ⟨O'.keepc (unhide HR0) hnf, O'.keepc (unhide HR1) hnf, O'.keepc (unhide HR2) hnf, O'.keepc (unhide HR3) hnf, fun j => (World.frozen?_of_block (a := ⟨w.heap.size + 1, j, none⟩) (O'.block _ hrb hnf)).trans (unhide HRF j)⟩)
  unfold deedV
  by_cases h1 : kind < 1
  · have HP := hide (doS_bad (σ := σ) (n := n) (s := s) (key := key) (kind := kind) (.inl h1))
    have h3 : kind ≤ 3 := by omega
    clear HT
    go_enter Try.func7, Try.ntmps7
    go_wp2
    refine bodyPost_ret (v := .tuple #[.agg #[.string ⟨#[]⟩, .int .i64 0, .int .i64 0, .int .i64 0], .int .i64 1]) (by simp [results, Try.results7, go_sem]) rfl ?_
    rw [unhide HP]
    exact ⟨rfl, Became.of_ext (unhide HS) (by have := unhide HE0; rw [unhide HW0] at this; exact this)⟩
  by_cases h8 : 8 < kind
  · have HP := hide (doS_bad (σ := σ) (n := n) (s := s) (key := key) (kind := kind) (.inr (.inl h8)))
    have h3 : ¬ kind ≤ 3 := by omega
    have e8 : (kind == 8) = false := by rw [beq_eq_false_iff_ne]; omega
    have e7 : (kind == 7) = false := by rw [beq_eq_false_iff_ne]; omega
    clear HT
    go_enter Try.func7, Try.ntmps7
    go_wp2
    refine bodyPost_ret (v := .tuple #[.agg #[.string ⟨#[]⟩, .int .i64 0, .int .i64 0, .int .i64 0], .int .i64 1]) (by simp [results, Try.results7, go_sem]) rfl ?_
    rw [unhide HP]
    exact ⟨rfl, Became.of_ext (unhide HS) (by have := unhide HE0; rw [unhide HW0] at this; exact this)⟩
  have hcases : kind = 4 ∨ kind = 5 ∨ kind = 6 ∨ kind = 1 ∨ kind = 2 ∨ kind = 3 ∨ kind = 7 ∨ kind = 8 := by omega
  rcases hcases with rfl | rfl | rfl | hcases
  · have HP := hide (show σ.doS 4 key n s = σ.atS 4 key n from by rw [doS_ok (by rintro (h | h | h) <;> first | omega | (have := h.1; unfold Sto.keyed at this; omega)), if_neg (by decide), if_neg (by decide), if_neg (by decide), if_neg (by decide)])
    have CP := hide (show ∀ W, Ext w W → Calls Try.prog 15 #[.pointer (some ⟨p, 0, none⟩), .agg #[.int .i64 4, .int .i64 key, .int .i64 n, .string s]] W fun e w' => e = .returned (.int .i64 (σ.atS 4 key n).1.err) ∧ Became b0 W p g v σ w' (σ.atS 4 key n).2 from fun W E => at_ok ((unhide HS).keep E) (unhide HF) 4 key n s (.inl rfl))
    have hN := atS_N σ 4 key n
    have HNO := hide (atS_no σ 4 key n)
    clear CK
    go_enter Try.func7, Try.ntmps7
    go_wp2_with fail
    rw [← unhide HW0]
    refine (unhide CP _ (unhide HE0)).mono ?_
    rintro e w2 ⟨rfl, B2⟩
    obtain ⟨⟨z0, z1, z2, z3, zf⟩, HB⟩ := unhide HT _ _ B2 hN
    have HBB := hide HB
    obtain ⟨er, her⟩ : ∃ er, er = (σ.atS 4 key n).1.err := ⟨_, rfl⟩
    rw [← her]
    rw [← her] at HNO
    clear B2 HB d0 d1 d2 d3 r0 r1 r2 r3 rf HT CP her
    go_wp2
    refine bodyPost_ret (v := .tuple #[.agg #[.string ⟨#[]⟩, .int .i64 0, .int .i64 0, .int .i64 0], .int .i64 er]) (by simp [results, Try.results7, go_sem, World.cell?_setCell_same', z0, z1, z2, z3]) rfl ?_
    have HB4 := hide (unhide HBB (.string ⟨#[]⟩) (.int .i64 0) (.int .i64 0) (.int .i64 0))
    rw [unhide HP, unhide HNO]
    exact ⟨rfl, by first | exact unhide HB4 | (have h := unhide HB4; exact h)⟩
  · have HP := hide (show σ.doS 5 key n s = σ.atS 5 key n from by rw [doS_ok (by rintro (h | h | h) <;> first | omega | (have := h.1; unfold Sto.keyed at this; omega)), if_neg (by decide), if_neg (by decide), if_neg (by decide), if_neg (by decide)])
    have CP := hide (show ∀ W, Ext w W → Calls Try.prog 15 #[.pointer (some ⟨p, 0, none⟩), .agg #[.int .i64 5, .int .i64 key, .int .i64 n, .string s]] W fun e w' => e = .returned (.int .i64 (σ.atS 5 key n).1.err) ∧ Became b0 W p g v σ w' (σ.atS 5 key n).2 from fun W E => at_ok ((unhide HS).keep E) (unhide HF) 5 key n s (.inr (.inl rfl)))
    have hN := atS_N σ 5 key n
    have HNO := hide (atS_no σ 5 key n)
    clear CK
    go_enter Try.func7, Try.ntmps7
    go_wp2_with fail
    rw [← unhide HW0]
    refine (unhide CP _ (unhide HE0)).mono ?_
    rintro e w2 ⟨rfl, B2⟩
    obtain ⟨⟨z0, z1, z2, z3, zf⟩, HB⟩ := unhide HT _ _ B2 hN
    have HBB := hide HB
    obtain ⟨er, her⟩ : ∃ er, er = (σ.atS 5 key n).1.err := ⟨_, rfl⟩
    rw [← her]
    rw [← her] at HNO
    clear B2 HB d0 d1 d2 d3 r0 r1 r2 r3 rf HT CP her
    go_wp2
    refine bodyPost_ret (v := .tuple #[.agg #[.string ⟨#[]⟩, .int .i64 0, .int .i64 0, .int .i64 0], .int .i64 er]) (by simp [results, Try.results7, go_sem, World.cell?_setCell_same', z0, z1, z2, z3]) rfl ?_
    have HB4 := hide (unhide HBB (.string ⟨#[]⟩) (.int .i64 0) (.int .i64 0) (.int .i64 0))
    rw [unhide HP, unhide HNO]
    exact ⟨rfl, by first | exact unhide HB4 | (have h := unhide HB4; exact h)⟩
  · have HP := hide (show σ.doS 6 key n s = σ.atS 6 key n from by rw [doS_ok (by rintro (h | h | h) <;> first | omega | (have := h.1; unfold Sto.keyed at this; omega)), if_neg (by decide), if_neg (by decide), if_neg (by decide), if_neg (by decide)])
    have CP := hide (show ∀ W, Ext w W → Calls Try.prog 15 #[.pointer (some ⟨p, 0, none⟩), .agg #[.int .i64 6, .int .i64 key, .int .i64 n, .string s]] W fun e w' => e = .returned (.int .i64 (σ.atS 6 key n).1.err) ∧ Became b0 W p g v σ w' (σ.atS 6 key n).2 from fun W E => at_ok ((unhide HS).keep E) (unhide HF) 6 key n s (.inr (.inr (.inl rfl))))
    have hN := atS_N σ 6 key n
    have HNO := hide (atS_no σ 6 key n)
    clear CK
    go_enter Try.func7, Try.ntmps7
    go_wp2_with fail
    rw [← unhide HW0]
    refine (unhide CP _ (unhide HE0)).mono ?_
    rintro e w2 ⟨rfl, B2⟩
    obtain ⟨⟨z0, z1, z2, z3, zf⟩, HB⟩ := unhide HT _ _ B2 hN
    have HBB := hide HB
    obtain ⟨er, her⟩ : ∃ er, er = (σ.atS 6 key n).1.err := ⟨_, rfl⟩
    rw [← her]
    rw [← her] at HNO
    clear B2 HB d0 d1 d2 d3 r0 r1 r2 r3 rf HT CP her
    go_wp2
    refine bodyPost_ret (v := .tuple #[.agg #[.string ⟨#[]⟩, .int .i64 0, .int .i64 0, .int .i64 0], .int .i64 er]) (by simp [results, Try.results7, go_sem, World.cell?_setCell_same', z0, z1, z2, z3]) rfl ?_
    have HB4 := hide (unhide HBB (.string ⟨#[]⟩) (.int .i64 0) (.int .i64 0) (.int .i64 0))
    rw [unhide HP, unhide HNO]
    exact ⟨rfl, by first | exact unhide HB4 | (have h := unhide HB4; exact h)⟩
  · by_cases hk : Sto.isKey key
    · rw [decide_eq_true hk] at CK
      obtain ⟨k, rfl⟩ : ∃ k : Nat, key = (k : Int) := ⟨key.toNat, by unfold Sto.isKey at hk; omega⟩
      have hk3 : k < 3 := by unfold Sto.isKey at hk; omega
      have HK := hide hk
      clear hk h1 h8
      rcases hcases with rfl | rfl | rfl | rfl | rfl
      · have HP := hide (show σ.doS 1 (k : Int) n s = σ.putS k s from by rw [doS_ok (by have := unhide HK; rintro (h | h | h) <;> first | omega | exact h.2 this), if_pos rfl, Int.toNat_natCast])
        have CP := hide (show ∀ W, Ext w W → Calls Try.prog 12 #[.pointer (some ⟨p, 0, none⟩), .agg #[.int .i64 1, .int .i64 (k : Int), .int .i64 n, .string s]] W fun e w' => e = .returned (tellV (σ.putS k s).1) ∧ Became b0 W p g v σ w' (σ.putS k s).2 from fun W E => put_ok ((unhide HS).keep E) (unhide HF) 1 n k hk3 s hss)
        have hN := putS_N σ k s
        clear CK
        go_enter Try.func7, Try.ntmps7
        go_wp2_with fail
        rw [← unhide HW0]
        refine (isKey_ok (k : Int) _).mono ?_
        rintro e w1 ⟨rfl, rfl⟩
        rw [decide_eq_true (unhide HK)]
        go_wp2_with fail
        refine (unhide CP _ (unhide HE0)).mono ?_
        rintro e w2 ⟨rfl, B2⟩
        obtain ⟨⟨z0, z1, z2, z3, zf⟩, HB⟩ := unhide HT _ _ B2 hN
        have HBB := hide HB
        clear B2 HB d0 d1 d2 d3 r0 r1 r2 r3 rf HT CP
        obtain ⟨an, han⟩ : ∃ a, a = (σ.putS k s).1 := ⟨_, rfl⟩
        rw [← han]
        have HAN := hide han
        clear han
        obtain ⟨tx, at_, mn, er⟩ := an
        rw [show tellV ⟨tx, at_, mn, er⟩ = .tuple #[.agg #[.string tx, .int .i64 (at_ : Int), .int .i64 0, .int .i64 (mn : Int)], .int .i64 er] from rfl]
        go_wp2
        refine bodyPost_ret (v := .tuple #[.agg #[.string tx, .int .i64 (at_ : Int), .int .i64 0, .int .i64 (mn : Int)], .int .i64 er]) (by simp [results, Try.results7, go_sem, World.cell?_setCell_same', z0, z1, z2, z3]) rfl ?_
        have HB4 := hide (unhide HBB (.string tx) (.int .i64 (at_ : Int)) (.int .i64 0) (.int .i64 (mn : Int)))
        rw [unhide HP]
        exact ⟨by rw [← unhide HAN]; rfl, unhide HB4⟩
      · have HP := hide (show σ.doS 2 (k : Int) n s = σ.tornS k n s from by rw [doS_ok (by have := unhide HK; rintro (h | h | h) <;> first | omega | exact h.2 this), if_neg (by decide), if_pos rfl, Int.toNat_natCast])
        have CP := hide (show ∀ W, Ext w W → Calls Try.prog 13 #[.pointer (some ⟨p, 0, none⟩), .agg #[.int .i64 2, .int .i64 (k : Int), .int .i64 n, .string s]] W fun e w' => e = .returned (tellV (σ.tornS k n s).1) ∧ Became b0 W p g v σ w' (σ.tornS k n s).2 from fun W E => torn_ok ((unhide HS).keep E) (unhide HF) 2 n k hk3 s hss)
        have hN := tornS_N σ k n s
        clear CK
        go_enter Try.func7, Try.ntmps7
        go_wp2_with fail
        rw [← unhide HW0]
        refine (isKey_ok (k : Int) _).mono ?_
        rintro e w1 ⟨rfl, rfl⟩
        rw [decide_eq_true (unhide HK)]
        go_wp2_with fail
        refine (unhide CP _ (unhide HE0)).mono ?_
        rintro e w2 ⟨rfl, B2⟩
        obtain ⟨⟨z0, z1, z2, z3, zf⟩, HB⟩ := unhide HT _ _ B2 hN
        have HBB := hide HB
        clear B2 HB d0 d1 d2 d3 r0 r1 r2 r3 rf HT CP
        obtain ⟨an, han⟩ : ∃ a, a = (σ.tornS k n s).1 := ⟨_, rfl⟩
        rw [← han]
        have HAN := hide han
        clear han
        obtain ⟨tx, at_, mn, er⟩ := an
        rw [show tellV ⟨tx, at_, mn, er⟩ = .tuple #[.agg #[.string tx, .int .i64 (at_ : Int), .int .i64 0, .int .i64 (mn : Int)], .int .i64 er] from rfl]
        go_wp2
        refine bodyPost_ret (v := .tuple #[.agg #[.string tx, .int .i64 (at_ : Int), .int .i64 0, .int .i64 (mn : Int)], .int .i64 er]) (by simp [results, Try.results7, go_sem, World.cell?_setCell_same', z0, z1, z2, z3]) rfl ?_
        have HB4 := hide (unhide HBB (.string tx) (.int .i64 (at_ : Int)) (.int .i64 0) (.int .i64 (mn : Int)))
        rw [unhide HP]
        exact ⟨by rw [← unhide HAN]; rfl, unhide HB4⟩
      · have HP := hide (show σ.doS 3 (k : Int) n s = σ.getS k from by rw [doS_ok (by have := unhide HK; rintro (h | h | h) <;> first | omega | exact h.2 this), if_neg (by decide), if_neg (by decide), if_pos rfl, Int.toNat_natCast])
        have CP := hide (show ∀ W, Ext w W → Calls Try.prog 14 #[.pointer (some ⟨p, 0, none⟩), .int .i64 (k : Int)] W fun e w' => e = .returned (.tuple #[.agg #[.string (readTx σ k), .int .i64 (readTt σ k : Int), .int .i64 0, .int .i64 0], .int .i64 (readTm σ k : Int), .int .i64 (σ.readE k)]) ∧ Became b0 W p g v σ w' (readTo σ k) from fun W E => by rw [← readV_eq]; exact read_ok ((unhide HS).keep E) (unhide HF) k hk3)
        have hN := readTo_N σ k
        have HTL := hide (getS_tell σ k)
        have HTR := hide (getS_read σ k)
        clear CK
        go_enter Try.func7, Try.ntmps7
        go_wp2_with fail
        rw [← unhide HW0]
        refine (isKey_ok (k : Int) _).mono ?_
        rintro e w1 ⟨rfl, rfl⟩
        rw [decide_eq_true (unhide HK)]
        go_wp2_with fail
        refine (unhide CP _ (unhide HE0)).mono ?_
        rintro e w2 ⟨rfl, B2⟩
        obtain ⟨tx, htx⟩ : ∃ tx, tx = readTx σ k := ⟨_, rfl⟩
        obtain ⟨tt, htt⟩ : ∃ tt, tt = readTt σ k := ⟨_, rfl⟩
        obtain ⟨tm, htm⟩ : ∃ tm, tm = readTm σ k := ⟨_, rfl⟩
        obtain ⟨er, her⟩ : ∃ er, er = σ.readE k := ⟨_, rfl⟩
        rw [← htx, ← htt, ← htm, ← her]
        rw [← htx, ← htt, ← her] at HTL
        have HTL2 := HTL
        clear htx htt htm her
        obtain ⟨⟨z0, z1, z2, z3, zf⟩, HB⟩ := unhide HT _ _ (B2.ext ((Ext.refl w2).alloc (.cells #[.string tx, .int .i64 (tt : Int), .int .i64 0, .int .i64 0] 36))) hN
        have HBB := hide HB
        clear B2 HB d0 d1 d2 d3 r0 r1 r2 r3 rf HT CP HTL
        go_wp2
        refine bodyPost_ret (v := .tuple #[.agg #[.string tx, .int .i64 (tt : Int), .int .i64 0, .int .i64 0], .int .i64 er]) (by simp [results, Try.results7, go_sem, World.cell?_setCell_same', z0, z1, z2, z3]) rfl ?_
        have HB4 := hide (unhide HBB (.string tx) (.int .i64 (tt : Int)) (.int .i64 0) (.int .i64 0))
        rw [unhide HP, unhide HTR]
        exact ⟨by rw [unhide HTL2], unhide HB4⟩
      · have HP := hide (show σ.doS 7 (k : Int) n s = σ.atS 7 (k : Int) n from by rw [doS_ok (by have := unhide HK; rintro (h | h | h) <;> first | omega | exact h.2 this), if_neg (by decide), if_neg (by decide), if_neg (by decide), if_neg (by decide)])
        have CP := hide (show ∀ W, Ext w W → Calls Try.prog 15 #[.pointer (some ⟨p, 0, none⟩), .agg #[.int .i64 7, .int .i64 (k : Int), .int .i64 n, .string s]] W fun e w' => e = .returned (.int .i64 (σ.atS 7 (k : Int) n).1.err) ∧ Became b0 W p g v σ w' (σ.atS 7 (k : Int) n).2 from fun W E => at_ok ((unhide HS).keep E) (unhide HF) 7 (k : Int) n s (.inr (.inr (.inr ⟨rfl, unhide HK⟩))))
        have hN := atS_N σ 7 (k : Int) n
        have HNO := hide (atS_no σ 7 (k : Int) n)
        clear CK
        go_enter Try.func7, Try.ntmps7
        go_wp2_with fail
        rw [← unhide HW0]
        refine (isKey_ok (k : Int) _).mono ?_
        rintro e w1 ⟨rfl, rfl⟩
        rw [decide_eq_true (unhide HK)]
        go_wp2_with fail
        refine (unhide CP _ (unhide HE0)).mono ?_
        rintro e w2 ⟨rfl, B2⟩
        obtain ⟨⟨z0, z1, z2, z3, zf⟩, HB⟩ := unhide HT _ _ B2 hN
        have HBB := hide HB
        obtain ⟨er, her⟩ : ∃ er, er = (σ.atS 7 (k : Int) n).1.err := ⟨_, rfl⟩
        rw [← her]
        rw [← her] at HNO
        clear B2 HB d0 d1 d2 d3 r0 r1 r2 r3 rf HT CP her
        go_wp2
        refine bodyPost_ret (v := .tuple #[.agg #[.string ⟨#[]⟩, .int .i64 0, .int .i64 0, .int .i64 0], .int .i64 er]) (by simp [results, Try.results7, go_sem, World.cell?_setCell_same', z0, z1, z2, z3]) rfl ?_
        have HB4 := hide (unhide HBB (.string ⟨#[]⟩) (.int .i64 0) (.int .i64 0) (.int .i64 0))
        rw [unhide HP, unhide HNO]
        exact ⟨rfl, by first | exact unhide HB4 | (have h := unhide HB4; exact h)⟩
      · have HP := hide (show σ.doS 8 (k : Int) n s = σ.scrubS k from by rw [doS_ok (by have := unhide HK; rintro (h | h | h) <;> first | omega | exact h.2 this), if_neg (by decide), if_neg (by decide), if_neg (by decide), if_pos rfl, Int.toNat_natCast])
        have CP := hide (show ∀ W, Ext w W → Calls Try.prog 14 #[.pointer (some ⟨p, 0, none⟩), .int .i64 (k : Int)] W fun e w' => e = .returned (.tuple #[.agg #[.string (readTx σ k), .int .i64 (readTt σ k : Int), .int .i64 0, .int .i64 0], .int .i64 (readTm σ k : Int), .int .i64 (σ.readE k)]) ∧ Became b0 W p g v σ w' (readTo σ k) from fun W E => by rw [← readV_eq]; exact read_ok ((unhide HS).keep E) (unhide HF) k hk3)
        have hN := readTo_N σ k
        have HTL := hide (scrubS_tell σ k)
        have HTR := hide (scrubS_read σ k)
        clear CK
        go_enter Try.func7, Try.ntmps7
        go_wp2_with fail
        rw [← unhide HW0]
        refine (isKey_ok (k : Int) _).mono ?_
        rintro e w1 ⟨rfl, rfl⟩
        rw [decide_eq_true (unhide HK)]
        go_wp2_with fail
        refine (unhide CP _ (unhide HE0)).mono ?_
        rintro e w2 ⟨rfl, B2⟩
        obtain ⟨tx, htx⟩ : ∃ tx, tx = readTx σ k := ⟨_, rfl⟩
        obtain ⟨tt, htt⟩ : ∃ tt, tt = readTt σ k := ⟨_, rfl⟩
        obtain ⟨tm, htm⟩ : ∃ tm, tm = readTm σ k := ⟨_, rfl⟩
        obtain ⟨er, her⟩ : ∃ er, er = σ.readE k := ⟨_, rfl⟩
        rw [← htx, ← htt, ← htm, ← her]
        rw [← htm, ← her] at HTL
        have HTL2 := HTL
        clear htx htt htm her
        obtain ⟨⟨z0, z1, z2, z3, zf⟩, HB⟩ := unhide HT _ _ (B2.ext ((Ext.refl w2).alloc (.cells #[.string tx, .int .i64 (tt : Int), .int .i64 0, .int .i64 0] 36))) hN
        have HBB := hide HB
        clear B2 HB d0 d1 d2 d3 r0 r1 r2 r3 rf HT CP HTL
        go_wp2
        refine bodyPost_ret (v := .tuple #[.agg #[.string ⟨#[]⟩, .int .i64 0, .int .i64 0, .int .i64 (tm : Int)], .int .i64 er]) (by simp [results, Try.results7, go_sem, World.cell?_setCell_same', z0, z1, z2, z3]) rfl ?_
        have HB4 := hide (unhide HBB (.string ⟨#[]⟩) (.int .i64 0) (.int .i64 0) (.int .i64 (tm : Int)))
        rw [unhide HP, unhide HTR]
        exact ⟨by rw [unhide HTL2], unhide HB4⟩
    · rw [decide_eq_false hk] at CK
      rcases hcases with rfl | rfl | rfl | rfl | rfl
      · have HP := hide (doS_bad (σ := σ) (n := n) (s := s) (key := key) (kind := 1) (.inr (.inr ⟨by unfold Sto.keyed; omega, hk⟩)))
        clear HT h1 h8
        go_enter Try.func7, Try.ntmps7
        go_wp2_with fail
        rw [← unhide HW0]
        refine (unhide CK _).mono ?_
        rintro e w1 ⟨rfl, rfl⟩
        go_wp2
        refine bodyPost_ret (v := .tuple #[.agg #[.string ⟨#[]⟩, .int .i64 0, .int .i64 0, .int .i64 0], .int .i64 1]) (by simp [results, Try.results7, go_sem, World.cell?_setCell_same', r0, r1, r2, r3]) rfl ?_
        rw [unhide HP]
        exact ⟨rfl, Became.of_ext (unhide HS) ((unhide HE0).set4 (by omega) _ _ _ _)⟩
      · have HP := hide (doS_bad (σ := σ) (n := n) (s := s) (key := key) (kind := 2) (.inr (.inr ⟨by unfold Sto.keyed; omega, hk⟩)))
        clear HT h1 h8
        go_enter Try.func7, Try.ntmps7
        go_wp2_with fail
        rw [← unhide HW0]
        refine (unhide CK _).mono ?_
        rintro e w1 ⟨rfl, rfl⟩
        go_wp2
        refine bodyPost_ret (v := .tuple #[.agg #[.string ⟨#[]⟩, .int .i64 0, .int .i64 0, .int .i64 0], .int .i64 1]) (by simp [results, Try.results7, go_sem, World.cell?_setCell_same', r0, r1, r2, r3]) rfl ?_
        rw [unhide HP]
        exact ⟨rfl, Became.of_ext (unhide HS) ((unhide HE0).set4 (by omega) _ _ _ _)⟩
      · have HP := hide (doS_bad (σ := σ) (n := n) (s := s) (key := key) (kind := 3) (.inr (.inr ⟨by unfold Sto.keyed; omega, hk⟩)))
        clear HT h1 h8
        go_enter Try.func7, Try.ntmps7
        go_wp2_with fail
        rw [← unhide HW0]
        refine (unhide CK _).mono ?_
        rintro e w1 ⟨rfl, rfl⟩
        go_wp2
        refine bodyPost_ret (v := .tuple #[.agg #[.string ⟨#[]⟩, .int .i64 0, .int .i64 0, .int .i64 0], .int .i64 1]) (by simp [results, Try.results7, go_sem, World.cell?_setCell_same', r0, r1, r2, r3]) rfl ?_
        rw [unhide HP]
        exact ⟨rfl, Became.of_ext (unhide HS) ((unhide HE0).set4 (by omega) _ _ _ _)⟩
      · have HP := hide (doS_bad (σ := σ) (n := n) (s := s) (key := key) (kind := 7) (.inr (.inr ⟨by unfold Sto.keyed; omega, hk⟩)))
        clear HT h1 h8
        go_enter Try.func7, Try.ntmps7
        go_wp2_with fail
        rw [← unhide HW0]
        refine (unhide CK _).mono ?_
        rintro e w1 ⟨rfl, rfl⟩
        go_wp2
        refine bodyPost_ret (v := .tuple #[.agg #[.string ⟨#[]⟩, .int .i64 0, .int .i64 0, .int .i64 0], .int .i64 1]) (by simp [results, Try.results7, go_sem, World.cell?_setCell_same', r0, r1, r2, r3]) rfl ?_
        rw [unhide HP]
        exact ⟨rfl, Became.of_ext (unhide HS) ((unhide HE0).set4 (by omega) _ _ _ _)⟩
      · have HP := hide (doS_bad (σ := σ) (n := n) (s := s) (key := key) (kind := 8) (.inr (.inr ⟨by unfold Sto.keyed; omega, hk⟩)))
        clear HT h1 h8
        go_enter Try.func7, Try.ntmps7
        go_wp2_with fail
        rw [← unhide HW0]
        refine (unhide CK _).mono ?_
        rintro e w1 ⟨rfl, rfl⟩
        go_wp2
        refine bodyPost_ret (v := .tuple #[.agg #[.string ⟨#[]⟩, .int .i64 0, .int .i64 0, .int .i64 0], .int .i64 1]) (by simp [results, Try.results7, go_sem, World.cell?_setCell_same', r0, r1, r2, r3]) rfl ?_
        rw [unhide HP]
        exact ⟨rfl, Became.of_ext (unhide HS) ((unhide HE0).set4 (by omega) _ _ _ _)⟩
end Go.Proofs.Ythmmofalepckgaa

/-
  store.New; deeds one after the other; wholekeep.worked.
-/
set_option linter.unusedVariables false
set_option linter.unusedSimpArgs false
namespace Go.Proofs.Ythmmofalepckgaa
open Go.RowKit Go.BigFrame

/-- What quorum.Check answers. -/
def qErr (n k x y : Int) : Int := if (1 ≤ n ∧ n ≤ 10) ∧ (1 ≤ k ∧ k ≤ n) ∧ (1 ≤ x ∧ x ≤ n) ∧ (1 ≤ y ∧ y ≤ n) then (if x + y < n + k then 9 else 0) else 1
set_option maxRecDepth 100000 in
set_option maxHeartbeats 2000000 in
theorem qchk_ok (n k x y : Int) (w : World) : Calls Try.prog 6 #[.agg #[.int .i64 n, .int .i64 k, .int .i64 x, .int .i64 y]] w fun e w' => e = .returned (.int .i64 (qErr n k x y)) ∧ Ext w w' := by
  have hmf : ∀ (fn : Fn) (first cap : Array Value) (w : World), (Instr.makeFunc fn first cap).run Try.prog w = .ok (.func fn first cap) w := fun _ _ _ _ => rfl
  by_cases h : (1 ≤ n ∧ n ≤ 10) ∧ (1 ≤ k ∧ k ≤ n) ∧ (1 ≤ x ∧ x ≤ n) ∧ (1 ≤ y ∧ y ≤ n)
  · unfold qErr
    rw [if_pos h]
    obtain ⟨hn, hk, hx, hy⟩ := h
    go_enter Try.func6, Try.ntmps6
    go_wp2
    all_goals
      go_ret
      exact ⟨rfl, (Ext.refl _).alloc _⟩
  · unfold qErr
    rw [if_neg h]
    have core : ∀ (_ : n < 1 ∨ (1 ≤ n ∧ 10 < n) ∨ (1 ≤ n ∧ n ≤ 10 ∧ k < 1) ∨ (1 ≤ n ∧ n ≤ 10 ∧ 1 ≤ k ∧ n < k) ∨ (1 ≤ n ∧ n ≤ 10 ∧ 1 ≤ k ∧ k ≤ n ∧ x < 1) ∨ (1 ≤ n ∧ n ≤ 10 ∧ 1 ≤ k ∧ k ≤ n ∧ 1 ≤ x ∧ n < x) ∨ (1 ≤ n ∧ n ≤ 10 ∧ 1 ≤ k ∧ k ≤ n ∧ 1 ≤ x ∧ x ≤ n ∧ y < 1) ∨ (1 ≤ n ∧ n ≤ 10 ∧ 1 ≤ k ∧ k ≤ n ∧ 1 ≤ x ∧ x ≤ n ∧ 1 ≤ y ∧ n < y)),
        Calls Try.prog 6 #[.agg #[.int .i64 n, .int .i64 k, .int .i64 x, .int .i64 y]] w fun e w' => e = .returned (.int .i64 1) ∧ Ext w w' := by
      clear h
      rintro (h | ⟨h1, h2⟩ | ⟨h1, h2, h3⟩ | ⟨h1, h2, h3, h4⟩ | ⟨h1, h2, h3, h4, h5⟩ | ⟨h1, h2, h3, h4, h5, h6⟩ | ⟨h1, h2, h3, h4, h5, h6, h7⟩ | ⟨h1, h2, h3, h4, h5, h6, h7, h8⟩)
      all_goals
        try have hd : decide (y ≤ n) = false := decide_eq_false (by omega)
        go_enter Try.func6, Try.ntmps6
        go_wp2
        go_ret
        exact ⟨rfl, (Ext.refl _).alloc _⟩
    exact core (by omega)

theorem nodeR : EInfo Try.prog 50 66 (.agg #[.bool false, .slice none 0 0, .slice none 0 0, .slice none 0 0]) 4 80 := EInfo.mk_ Try.underlying50 (by kernel_rfl) rfl (by omega)
theorem made_at (z : Array Value) (m : Nat) {j : Nat} (h : j < m) : (madeCells z m)[j]? = some (z[j % z.size]!) := by
  unfold madeCells
  simp [h]
/-- A store that has just been made. -/
theorem St.make (w : World) {b0 n : Nat} (k x y : Nat) (hb : b0 ≤ w.heap.size) : St b0 ((w.alloc (.cells (madeCells #[.bool false, .slice none 0 0, .slice none 0 0, .slice none 0 0] (n * 4)) 66)).alloc (.cells #[.int .i64 (n : Int), .int .i64 (k : Int), .int .i64 (x : Int), .int .i64 (y : Int), .slice (some ⟨w.heap.size, 0, none⟩) n n, .int .i64 0] 52))
    (w.heap.size + 1) w.heap.size (fun _ _ => .slice none 0 0) (Sto.new n k x y) := by
  have h2 := new2 w (madeCells #[.bool false, .slice none 0 0, .slice none 0 0, .slice none 0 0] (n * 4)) #[.int .i64 (n : Int), .int .i64 (k : Int), .int .i64 (x : Int), .int .i64 (y : Int), .slice (some ⟨w.heap.size, 0, none⟩) n n, .int .i64 0] 66 52
  have hsz : ((w.alloc (.cells (madeCells #[.bool false, .slice none 0 0, .slice none 0 0, .slice none 0 0] (n * 4)) 66)).alloc (.cells #[.int .i64 (n : Int), .int .i64 (k : Int), .int .i64 (x : Int), .int .i64 (y : Int), .slice (some ⟨w.heap.size, 0, none⟩) n n, .int .i64 0] 52)).heap.size = w.heap.size + 2 := by simp
  exact {
    p_lo := by omega
    p_hi := by rw [hsz]; omega
    g_lo := hb
    g_hi := by rw [hsz]; omega
    pg := by omega
    cN := (h2 0).2.1
    cK := (h2 1).2.1
    cW := (h2 2).2.1
    cR := (h2 3).2.1
    cnodes := (h2 4).2.1
    cwr := (h2 5).2.1
    fwr := (h2 5).2.2
    fg := fun j => (((Ext.refl (w.alloc (.cells (madeCells #[.bool false, .slice none 0 0, .slice none 0 0, .slice none 0 0] (n * 4)) 66))).alloc _).frozen (p := ⟨w.heap.size, j, none⟩) (by simp)).trans (new_frozen _ _ _ _)
    cdown := fun i hi => by
      have hi : i < n := hi
      rw [(h2 (i * 4)).1, made_at _ _ (by omega)]
      have : i * 4 % 4 = 0 := by omega
      show some ((#[Value.bool false, .slice none 0 0, .slice none 0 0, .slice none 0 0] : Array Value)[i * 4 % 4]!) = _
      rw [this]; rfl
    ckept := fun i j hi hj => by
      have hi : i < n := hi
      rw [(h2 (i * 4 + 1 + j)).1, made_at _ _ (by omega)]
      show some ((#[Value.bool false, .slice none 0 0, .slice none 0 0, .slice none 0 0] : Array Value)[(i * 4 + 1 + j) % 4]!) = _
      rcases (show j = 0 ∨ j = 1 ∨ j = 2 by omega) with rfl | rfl | rfl
      · rw [show (i * 4 + 1 + 0) % 4 = 1 by omega]; rfl
      · rw [show (i * 4 + 1 + 1) % 4 = 2 by omega]; rfl
      · rw [show (i * 4 + 1 + 2) % 4 = 3 by omega]; rfl
    own := fun i j hi hj => World.ownsRow_nil _ _ _ _
    offp := fun i j _ _ h => by cases h
    offg := fun i j _ _ h => by cases h
    apart := fun i j a b _ _ _ _ _ q h => by cases h }
set_option maxRecDepth 100000 in
set_option maxHeartbeats 2000000 in
theorem New_bad (n k x y : Int) (w : World) (h : qErr n k x y ≠ 0) : Calls Try.prog 8 #[.agg #[.int .i64 n, .int .i64 k, .int .i64 x, .int .i64 y]] w fun e w' => e = .returned (.tuple #[.pointer none, .int .i64 (qErr n k x y)]) ∧ Ext w w' := by
  have CQ := hide (fun W => qchk_ok n k x y W)
  have hB : (qErr n k x y != 0) = true := by rw [bne_iff_ne]; exact h
  clear h
  generalize qErr n k x y = r at *
  go_enter Try.func8, Try.ntmps8
  go_wp2_with fail
  refine (unhide CQ _).mono ?_
  rintro e w1 ⟨rfl, E1⟩
  go_wp2
  go_ret2
  exact ⟨rfl, ((Ext.refl w).alloc _).trans E1⟩
set_option maxRecDepth 100000 in
set_option maxHeartbeats 2000000 in
theorem New_ok (n k x y : Nat) (w : World) (h : qErr n k x y = 0) : Calls Try.prog 8 #[.agg #[.int .i64 (n : Int), .int .i64 (k : Int), .int .i64 (x : Int), .int .i64 (y : Int)]] w fun e w' =>
    (∃ p g v, e = .returned (.tuple #[.pointer (some ⟨p, 0, none⟩), .int .i64 0]) ∧ St w.heap.size w' p g v (Sto.new n k x y)) ∧ Ext w w' := by
  have hn : n ≤ 10 := by
    unfold qErr at h
    by_cases c : (1 ≤ (n : Int) ∧ (n : Int) ≤ 10) ∧ (1 ≤ (k : Int) ∧ (k : Int) ≤ n) ∧ (1 ≤ (x : Int) ∧ (x : Int) ≤ n) ∧ (1 ≤ (y : Int) ∧ (y : Int) ≤ n)
    · omega
    · rw [if_neg c] at h; omega
  have CQ := hide (fun W => qchk_ok n k x y W)
  rw [h] at CQ
  have hmk : ∀ w : World, (Instr.makeSlice 50 (.int .i64 (n : Int)) (.int .i64 (n : Int))).run Try.prog w = .ok (.slice (some ⟨w.heap.size, 0, none⟩) n n) (w.alloc (.cells (madeCells #[.bool false, .slice none 0 0, .slice none 0 0, .slice none 0 0] (n * 4)) 66)) := fun w =>
    make_run nodeR n n (Nat.le_refl _) (by omega) (by omega) w
  obtain ⟨W0, hW0⟩ : ∃ W0, W0 = w.alloc (.cells #[.int .i64 (n : Int), .int .i64 (k : Int), .int .i64 (x : Int), .int .i64 (y : Int)] 23) := ⟨_, rfl⟩
  have HW0 := hide hW0
  have E0 : Ext w W0 := by rw [hW0]; exact (Ext.refl w).alloc _
  have d0 : W0.cell? ⟨w.heap.size, 0, none⟩ = some (.int .i64 (n : Int)) := by rw [hW0, new_cell]; rfl
  have d1 : W0.cell? ⟨w.heap.size, 1, none⟩ = some (.int .i64 (k : Int)) := by rw [hW0, new_cell]; rfl
  have d2 : W0.cell? ⟨w.heap.size, 2, none⟩ = some (.int .i64 (x : Int)) := by rw [hW0, new_cell]; rfl
  have d3 : W0.cell? ⟨w.heap.size, 3, none⟩ = some (.int .i64 (y : Int)) := by rw [hW0, new_cell]; rfl
  have HE0 := hide E0
  clear hW0 h
  go_enter Try.func8, Try.ntmps8
  go_wp2_with fail
  rw [← unhide HW0]
  refine (unhide CQ _).mono ?_
  rintro e w1 ⟨rfl, E1⟩
  have d0 := E1.keep d0
  have d1 := E1.keep d1
  have d2 := E1.keep d2
  have d3 := E1.keep d3
  have d0A := fun o => ((Ext.refl w1).alloc o).keep d0
  have d1A := fun o => ((Ext.refl w1).alloc o).keep d1
  have d2A := fun o => ((Ext.refl w1).alloc o).keep d2
  have d3A := fun o => ((Ext.refl w1).alloc o).keep d3
  have HE1 := hide ((unhide HE0).trans E1)
  clear CQ E1
  go_upto_region 4 with fail
  apply share
  · intro H
    go_region_law (fail)
    all_goals exact H
  go_wp2
  go_ret2
  exact ⟨⟨w1.heap.size + 1, w1.heap.size, fun _ _ => .slice none 0 0, rfl, (St.make w1 k x y (unhide HE1).size).keep (Ext.refl _).drew⟩, (((unhide HE1).alloc _).alloc _).drew⟩
end Go.Proofs.Ythmmofalepckgaa

/-
  Deeds one after the other (plain); the laws' own example.
-/
set_option linter.unusedVariables false
set_option linter.unusedSimpArgs false
namespace Go.Proofs.Ythmmofalepckgaa
open Go.RowKit Go.BigFrame

namespace Sto
theorem Ok.fine {σ : Sto} {H : Nat → Nat × ByteArray} (O : Ok σ H) : Fine σ where
  k1 := O.k1
  kn := O.kn
  n10 := O.n10
  few := O.few
  len i k hi hk := Nat.le_trans (O.len hi hk) O.few
  sz i k e hi hk he := O.size hi hk he
def ddo (σ : Sto) (d : Dd) : Ans × Sto := σ.doS d.kind d.key d.n d.s
def run (σ : Sto) (l : List Dd) : Sto := l.foldl (fun σ d => (σ.ddo d).2) σ
theorem run_nil (σ : Sto) : σ.run [] = σ := rfl
theorem run_snoc (σ : Sto) (l : List Dd) (d : Dd) : σ.run (l ++ [d]) = ((σ.run l).ddo d).2 := by simp [run]
theorem run_take (σ : Sto) (l : List Dd) {x : Nat} (h : x < l.length) : σ.run (l.take (x + 1)) = ((σ.run (l.take x)).ddo (dg l x)).2 := by
  rw [take_snoc l Dd.no h, run_snoc]; rfl
theorem doS_N (σ : Sto) (kind key n : Int) (s : ByteArray) : (σ.doS kind key n s).2.N = σ.N := by
  refine doS_cases σ kind key n s (P := fun r => r.2.N = σ.N) (fun _ => rfl) (fun _ _ => putS_N _ _ _) (fun _ _ => tornS_N _ _ _ _) (fun _ _ => ?_) (fun _ _ => ?_) (fun _ => atS_N _ _ _ _)
  · rw [getS_read]; exact readTo_N _ _
  · rw [scrubS_read]; exact readTo_N _ _
theorem Ok.runs {σ : Sto} {H : Nat → Nat × ByteArray} (O : Ok σ H) (l : List Dd) : ∃ H', Ok (σ.run l) H' := by
  refine rev_induct (P := fun l => ∃ H', Ok (σ.run l) H') ⟨H, O⟩ (fun l d ⟨H', h⟩ => ?_) l
  rw [run_snoc]
  exact ⟨_, h.do_ d.kind d.key d.n d.s⟩
theorem run_N (σ : Sto) (l : List Dd) : (σ.run l).N = σ.N := by
  refine rev_induct (P := fun l => (σ.run l).N = σ.N) rfl (fun l d h => ?_) l
  rw [run_snoc]
  exact (doS_N _ _ _ _ _).trans h
end Sto
/-- The numbers of a quorum that is right. -/
theorem qErr_nat {n k x y : Int} (h : qErr n k x y = 0) : ∃ N K W R : Nat, n = N ∧ k = K ∧ x = W ∧ y = R ∧ qErr N K W R = 0 ∧ (1 ≤ K ∧ K ≤ N) ∧ N ≤ 10 ∧ (1 ≤ W ∧ W ≤ N) ∧ (1 ≤ R ∧ R ≤ N) ∧ N + K ≤ W + R := by
  have h0 := h
  unfold qErr at h
  by_cases c : (1 ≤ n ∧ n ≤ 10) ∧ (1 ≤ k ∧ k ≤ n) ∧ (1 ≤ x ∧ x ≤ n) ∧ (1 ≤ y ∧ y ≤ n)
  · rw [if_pos c] at h
    obtain ⟨N, rfl⟩ : ∃ N : Nat, n = N := ⟨n.toNat, by omega⟩
    obtain ⟨K, rfl⟩ : ∃ K : Nat, k = K := ⟨k.toNat, by omega⟩
    obtain ⟨W, rfl⟩ : ∃ W : Nat, x = W := ⟨x.toNat, by omega⟩
    obtain ⟨R, rfl⟩ : ∃ R : Nat, y = R := ⟨y.toNat, by omega⟩
    by_cases d : (W : Int) + R < N + K
    · rw [if_pos d] at h; exact absurd h (by decide)
    · exact ⟨N, K, W, R, rfl, rfl, rfl, rfl, h0, by omega, by omega, by omega, by omega, by omega⟩
  · rw [if_neg c] at h; exact absurd h (by decide)
theorem okNew {N K W R : Nat} (h1 : 1 ≤ K ∧ K ≤ N) (h2 : N ≤ 10) (h3 : 1 ≤ W ∧ W ≤ N) (h4 : 1 ≤ R ∧ R ≤ N) (h5 : N + K ≤ W + R) : Sto.Ok (Sto.new N K W R) (fun _ => (0, ByteArray.empty)) := Sto.Ok.start h1 h2 h3 h4 h5 _

/-! ### The example -/
def abc : ByteArray := ⟨#[97, 98, 99]⟩
def kσ : Sto := Sto.new 4 2 3 3
def kσ1 : Sto := (kσ.doS 1 1 0 abc).2
def kσ2 : Sto := (kσ1.doS 4 0 0 ⟨#[]⟩).2
theorem kept_plain : (kσ.doS 1 1 0 abc).1 = ⟨⟨#[]⟩, 1, 0, 0⟩ ∧ (kσ1.doS 4 0 0 ⟨#[]⟩).1 = ⟨⟨#[]⟩, 0, 0, 0⟩ ∧ (kσ2.doS 3 1 0 ⟨#[]⟩).1 = ⟨abc, 1, 0, 0⟩ ∧ Fine kσ ∧ Fine kσ1 ∧ Fine kσ2 := by
  have O0 : Sto.Ok kσ (fun _ => (0, ByteArray.empty)) := okNew (by omega) (by omega) (by omega) (by omega) (by omega)
  have hk : Sto.isKey 1 := by unfold Sto.isKey; omega
  have hs : kσ.splitE abc = 0 := by decide +kernel
  have ha : kσ.doS 1 1 0 abc = (⟨ByteArray.empty, 1, 0, 0⟩, { kσ with wr := 1, kept := kσ.putK 1 abc kσ.ups }) := by
    rw [doS_ok (by rintro (h | h | h); · omega
                   · omega
                   · exact h.2 hk), if_pos rfl]
    unfold Sto.putS
    rw [show (1 : Int).toNat = 1 from rfl, hs, if_neg (by decide)]
    rfl
  have O1 := O0.do_ 1 1 0 abc
  have S1 := (Sto.stands_told O0 1 1 0 abc (.inl rfl) (by rw [ha])).2
  have hw1 : kσ1.wr = 1 := by unfold kσ1; rw [ha]
  have hN1 : kσ1.N = 4 := by unfold kσ1; rw [ha]; rfl
  have hd1 : kσ1.down = fun _ => false := by unfold kσ1; rw [ha]; rfl
  have hH1 : Sto.hist kσ (fun _ => (0, ByteArray.empty)) 1 1 0 abc 1 = (1, abc) := by
    unfold Sto.hist
    rw [ha, if_neg (by show ¬ (1 : Nat) = 0; omega)]
    exact Sto.ext_same _ _ _ _
  have hb : kσ1.doS 4 0 0 ⟨#[]⟩ = (Ans.no 0, { kσ1 with down := fun i => if i = (0 : Int).toNat then true else kσ1.down i }) := by
    rw [doS_ok (by rintro (h | h | h)
                   · omega
                   · omega
                   · have := h.1; unfold Sto.keyed at this; omega), if_neg (by decide), if_neg (by decide), if_neg (by decide), if_neg (by decide)]
    unfold Sto.atS
    rw [if_neg (by unfold Sto.isNode; rw [hN1]; omega), if_pos rfl]
  have O2 := O1.do_ 4 0 0 ⟨#[]⟩
  obtain ⟨T', hT, S2, -⟩ := S1.step O1 (by show 1 < 3; omega) 4 0 0 ⟨#[]⟩ (by decide) (by decide)
  have hw2 : kσ2.wr = 1 := by unfold kσ2; rw [hb]; exact hw1
  have hu : kσ2.ups.length = 3 := by
    have h1 : kσ2.N = 4 := by unfold kσ2; rw [hb]; exact hN1
    have h2 : kσ2.down = fun i => if i = 0 then true else false := by unfold kσ2; rw [hb]; show (fun i => if i = (0 : Int).toNat then true else kσ1.down i) = _; rw [hd1]; rfl
    unfold Sto.ups
    rw [h1, h2]
    decide
  have hR2 : kσ2.R = 3 := by unfold kσ2; rw [hb]; show kσ1.R = 3; unfold kσ1; rw [ha]; rfl
  have hW2 : kσ2.W = 3 := by unfold kσ2; rw [hb]; show kσ1.W = 3; unfold kσ1; rw [ha]; rfl
  have hH2 : Sto.hist kσ1 (Sto.hist kσ (fun _ => (0, ByteArray.empty)) 1 1 0 abc) 4 0 0 ⟨#[]⟩ 1 = (1, abc) := by
    rw [Sto.hist_old _ _ _ _ (by rw [hw1]; exact Nat.le_refl _)]; exact hH1
  have hre : kσ2.readE 1 = 0 := by
    rcases Sto.Stands.read S2 O2 (by show 1 < 3; omega) with h | h
    · exfalso
      have h : kσ2.readE 1 = 9 := h
      unfold Sto.readE at h
      rw [if_neg (by rw [hu, hR2, hW2]; omega)] at h
      by_cases c : (kσ2.newest 1).isNone = true
      · rw [if_pos c] at h; exact absurd h (by decide)
      · rw [if_neg c] at h; exact absurd h (by decide)
    · exact h.1
  have hc : (kσ2.doS 3 1 0 ⟨#[]⟩).1 = ⟨kσ2.readText 1, kσ2.readAt 1, 0, 0⟩ := by
    rw [doS_ok (by rintro (h | h | h); · omega
                   · omega
                   · exact h.2 hk), if_neg (by decide), if_neg (by decide), if_pos rfl]
    unfold Sto.getS
    rw [show (1 : Int).toNat = 1 from rfl, hre, if_neg (by decide)]
  obtain ⟨t, h1, h2, h3, h4, h5, -⟩ := Sto.Ok.readText_small O2 (show 1 < 3 by omega) hre
  have h5 : t ≤ kσ2.wr := h5
  rw [hw2] at h5
  obtain rfl : t = 1 := by omega
  refine ⟨by rw [ha]; rfl, by rw [hb]; rfl, ?_, O0.fine, O1.fine, O2.fine⟩
  rw [hc]
  have h2 : kσ2.readAt 1 = 1 := h2
  have h3 : kσ2.readText 1 = abc := h3.trans (congrArg Prod.snd hH2)
  rw [h2, h3]
end Go.Proofs.Ythmmofalepckgaa

/-
  The walks of wholekeep.kept and wholekeep.worked.
-/
set_option linter.unusedVariables false
set_option linter.unusedSimpArgs false
namespace Go.Proofs.Ythmmofalepckgaa
open Go.RowKit Go.BigFrame

set_option maxRecDepth 100000 in
set_option maxHeartbeats 4000000 in
theorem kept_ok (w : World) : Calls Try.prog 4 #[] w fun e w' => e = .returned (.bool true) ∧ Ext w w' := by
  obtain ⟨k1, k2, k3, f1, f2, f3⟩ := kept_plain
  have CN := hide (New_ok 4 2 3 3 w (by decide))
  have CD1 := hide (fun (b0 p g : Nat) (W : World) (v : Nat → Nat → Value) (S : St b0 W p g v kσ) => do_ok S f1 1 1 0 abc (by decide))
  have CD2 := hide (fun (b0 p g : Nat) (W : World) (v : Nat → Nat → Value) (S : St b0 W p g v kσ1) => do_ok S f2 4 0 0 ⟨#[]⟩ (by decide))
  have CD3 := hide (fun (b0 p g : Nat) (W : World) (v : Nat → Nat → Value) (S : St b0 W p g v kσ2) => do_ok S f3 3 1 0 ⟨#[]⟩ (by decide))
  have K1 := hide k1
  have K2 := hide k2
  have K3 := hide k3
  clear k1 k2 k3 f1 f2 f3
  go_enter Try.func4, Try.ntmps4
  go_wp2_with fail
  refine (unhide CN).mono ?_
  rintro e w1 ⟨⟨p, g, v, rfl, S1⟩, E1⟩
  have HS1 := hide S1
  have HE1 := hide E1
  clear S1 E1
  go_wp2_with fail
  refine (unhide CD1 _ _ _ _ _ (unhide HS1)).mono ?_
  rintro e w2 ⟨rfl, v2, S2, O2, F2⟩
  rw [unhide K1, show tellV ⟨⟨#[]⟩, 1, 0, 0⟩ = .tuple #[.agg #[.string ⟨#[]⟩, .int .i64 1, .int .i64 0, .int .i64 0], .int .i64 0] from rfl]
  have HE2 := hide (O2.ext (unhide HE1) fun x hx => (unhide HS1).foot_lo hx)
  obtain ⟨wa, hwa⟩ : ∃ wa, wa = w2.alloc (.cells #[.string ⟨#[]⟩, .int .i64 1, .int .i64 0, .int .i64 0] 36) := ⟨_, rfl⟩
  have HWA := hide hwa
  have Ea : Ext w2 wa := by rw [hwa]; exact (Ext.refl w2).alloc _
  have a1 : wa.cell? ⟨w2.heap.size, 1, none⟩ = some (.int .i64 1) := by rw [hwa, new_cell]; rfl
  have a2 : wa.cell? ⟨w2.heap.size, 2, none⟩ = some (.int .i64 0) := by rw [hwa, new_cell]; rfl
  have hsa : w2.heap.size < wa.heap.size := cell_lt a1
  have HF2 := hide (show ∀ x, foot p g v2 4 x → x < w2.heap.size from fun x hx => S2.foot_hi hx)
  have HSa := hide (S2.keep Ea)
  have HA1 := hide a1
  have HA2 := hide a2
  have HEa := hide ((unhide HE2).trans Ea)
  have hrunI : (w2.heap.size : Nat) = w2.heap.size := rfl
  clear S2 O2 F2 hwa Ea a1 a2 CN CD1 hrunI
  go_wp2_with fail
  rw [← unhide HWA]
  refine (unhide CD2 _ _ _ _ _ (unhide HSa)).mono ?_
  rintro e w3 ⟨rfl, v3, S3, O3, F3⟩
  rw [unhide K2, show tellV ⟨⟨#[]⟩, 0, 0, 0⟩ = .tuple #[.agg #[.string ⟨#[]⟩, .int .i64 0, .int .i64 0, .int .i64 0], .int .i64 0] from rfl]
  have HE3 := hide (O3.ext (unhide HEa) fun x hx => (unhide HSa).foot_lo hx)
  have hn2 : ¬ foot p g v2 4 w2.heap.size := fun h => by have := unhide HF2 _ h; omega
  have hn3 : ¬ foot p g v3 4 w2.heap.size := fun h => by
    rcases F3 _ h with h | h
    · exact hn2 h
    · omega
  have b1 := O3.keepc (unhide HA1) hn2
  have b2 := O3.keepc (unhide HA2) hn2
  obtain ⟨wb, hwb⟩ : ∃ wb, wb = w3.alloc (.cells #[.string ⟨#[]⟩, .int .i64 0, .int .i64 0, .int .i64 0] 36) := ⟨_, rfl⟩
  have HWB := hide hwb
  have Eb : Ext w3 wb := by rw [hwb]; exact (Ext.refl w3).alloc _
  have HB1 := hide (Eb.keep b1)
  have HB2 := hide (Eb.keep b2)
  have HSb := hide (S3.keep Eb)
  have HEb := hide ((unhide HE3).trans Eb)
  have HN3 := hide hn3
  clear S3 O3 F3 hwb Eb b1 b2 CD2 hn2 hn3
  go_wp2_with fail
  rw [← unhide HWB]
  refine (unhide CD3 _ _ _ _ _ (unhide HSb)).mono ?_
  rintro e w4 ⟨rfl, v4, S4, O4, F4⟩
  rw [unhide K3, show tellV ⟨abc, 1, 0, 0⟩ = .tuple #[.agg #[.string ⟨#[97, 98, 99]⟩, .int .i64 1, .int .i64 0, .int .i64 0], .int .i64 0] from rfl]
  have HE4 := hide (O4.ext (unhide HEb) fun x hx => (unhide HSb).foot_lo hx)
  have c1 := O4.keepc (unhide HB1) (unhide HN3)
  have c2 := O4.keepc (unhide HB2) (unhide HN3)
  have E5 := (Ext.refl w4).alloc (.cells #[.string ⟨#[97, 98, 99]⟩, .int .i64 1, .int .i64 0, .int .i64 0] 36)
  obtain ⟨w5, hw5⟩ : ∃ w5, w5 = w4.alloc (.cells #[.string ⟨#[97, 98, 99]⟩, .int .i64 1, .int .i64 0, .int .i64 0] 36) := ⟨_, rfl⟩
  rw [← hw5] at E5
  have t0 : w5.cell? ⟨w4.heap.size, 0, none⟩ = some (.string ⟨#[97, 98, 99]⟩) := by rw [hw5, new_cell]; rfl
  have t1 : w5.cell? ⟨w4.heap.size, 1, none⟩ = some (.int .i64 1) := by rw [hw5, new_cell]; rfl
  have t2 : w5.cell? ⟨w4.heap.size, 2, none⟩ = some (.int .i64 0) := by rw [hw5, new_cell]; rfl
  have HW5 := hide hw5
  have x1 := fun o => ((Ext.refl w5).alloc o).keep (E5.keep c1)
  have x2 := fun o => ((Ext.refl w5).alloc o).keep (E5.keep c2)
  have y0 := fun o => ((Ext.refl w5).alloc o).keep t0
  have y1 := fun o => ((Ext.refl w5).alloc o).keep t1
  have y2 := fun o => ((Ext.refl w5).alloc o).keep t2
  have HE5 := hide ((unhide HE4).trans E5)
  clear S4 O4 F4 E5 hw5 t0 t1 t2 c1 c2 CD3
  go_upto_region 7 with fail
  rw [← unhide HW5]
  go_wp2_with (go_at_call 9; refine (good_made' [0, 0, 0] _ _ _ _ w5 rfl rfl (by decide) rfl).mono ?_; rintro e wg ⟨rfl, rfl⟩)
  go_ret
  exact ⟨rfl, (unhide HE5).alloc _⟩
end Go.Proofs.Ythmmofalepckgaa

/-
  The walk of wholekeep.worked.
-/
set_option linter.unusedVariables false
set_option linter.unusedSimpArgs false
namespace Go.Proofs.Ythmmofalepckgaa
open Go.RowKit Go.BigFrame

set_option maxRecDepth 100000 in
set_option maxHeartbeats 2000000 in
theorem worked_bad (n k x y : Int) (A : Option Addr) (m c : Nat) (w : World) (h : qErr n k x y ≠ 0) : Calls Try.prog 5 #[.agg #[.int .i64 n, .int .i64 k, .int .i64 x, .int .i64 y], .slice A m c] w fun e w' => e = .returned (.pointer none) ∧ Ext w w' := by
  have CN := hide (fun W => New_bad n k x y W h)
  have hB : (qErr n k x y != 0) = true := by rw [bne_iff_ne]; exact h
  clear h
  generalize qErr n k x y = r at *
  go_enter Try.func5, Try.ntmps5
  go_wp2_with fail
  refine (unhide CN _).mono ?_
  rintro e w1 ⟨rfl, E1⟩
  go_wp2
  go_ret
  exact ⟨rfl, ((Ext.refl w).alloc _).trans E1⟩
set_option maxRecDepth 100000 in
set_option maxHeartbeats 4000000 in
theorem worked_ok {N K W R : Nat} (hq : qErr N K W R = 0) {H : Nat → Nat × ByteArray} (O : Sto.Ok (Sto.new N K W R) H) (A : Option Addr) (m c : Nat) (l : List Dd) (w : World) (Rw : Row w A m 4 (dds l)) (hm : m ≤ 4611686018427387904) (hss : ∀ d ∈ l, (d.s.size : Int) ≤ 9223372036854775807) :
    Calls Try.prog 5 #[.agg #[.int .i64 (N : Int), .int .i64 (K : Int), .int .i64 (W : Int), .int .i64 (R : Int)], .slice A m c] w fun e w' =>
      (∃ p g v, e = .returned (.pointer (some ⟨p, 0, none⟩)) ∧ St w.heap.size w' p g v ((Sto.new N K W R).run l)) ∧ Ext w w' := by
  have CN := hide (fun W0 => New_ok N K W R W0 hq)
  have HR := hide Rw
  have HSS := hide hss
  have HO := hide O
  clear hq Rw hss O
  go_enter Try.func5, Try.ntmps5
  go_wp2_with fail
  refine (unhide CN _).mono ?_
  rintro e w1 ⟨⟨p, g, v, rfl, S1⟩, E1⟩
  have E01 : Ext w w1 := ((Ext.refl w).alloc _).trans E1
  have HS1 := hide (S1.mono (b1 := w.heap.size) (by simp))
  have HE1 := hide E01
  clear S1 E1 E01 CN
  go_wp2
  go_loopw [22] (fun i wr => ∃ x : Nat, x ≤ m ∧ i = .int .i64 x ∧ ∃ v', Hid (St w.heap.size wr p g v' ((Sto.new N K W R).run (l.take x))) ∧ Hid (Ext w wr)) (fun i _ => m - (intOf i).toNat)
  case atStart => exact ⟨0, Nat.zero_le _, rfl, v, HS1, HE1⟩
  case round =>
    obtain ⟨x, hx, rfl, v', HS, HE⟩ := hrel
    by_cases hlt : x < m
    · obtain ⟨b, o, rfl, hb, c1, c2, c3, c4⟩ := ((unhide HR).keep (unhide HE)).dd hlt
      have hxl : x < l.length := by rw [(unhide HR).ddn]; exact hlt
      obtain ⟨H', OX⟩ := Sto.Ok.runs (unhide HO) (l.take x)
      have hsz := unhide HSS _ (dg_mem hxl)
      have CD := hide (fun (W0 : World) (S : St w.heap.size W0 p g v' ((Sto.new N K W R).run (l.take x))) => do_ok S OX.fine (dg l x).kind (dg l x).key (dg l x).n (dg l x).s hsz)
      have HRT := hide (Sto.run_take (Sto.new N K W R) l hxl)
      have hxI : (x : Int) < (m : Int) := by omega
      unfold Sto.ddo at HRT
      generalize (dg l x).kind = d1 at *
      generalize (dg l x).key = d2 at *
      generalize (dg l x).n = d3 at *
      generalize (dg l x).s = d4 at *
      have Ea := (Ext.refl wr).alloc (.cells #[.int .i64 d1, .int .i64 d2, .int .i64 d3, .string d4] 32)
      have HSa := hide ((unhide HS).keep Ea)
      have HEa := hide ((unhide HE).trans Ea)
      clear OX hsz Ea hxl
      go_wp2_with fail
      refine (unhide CD _ (unhide HSa)).mono ?_
      rintro e w3 ⟨rfl, v3, S3, O3, F3⟩
      have HS3 := hide (show St w.heap.size w3 p g v3 ((Sto.new N K W R).run (l.take (x + 1))) from by rw [unhide HRT]; exact S3)
      have HE3 := hide (O3.ext (unhide HEa) fun q hq => (unhide HSa).foot_lo hq)
      clear S3 O3 F3 CD HRT
      go_wp2
      go_roundw
      case rel => exact ⟨x + 1, by omega, by go_num, v3, HS3, HE3⟩
      case measure => simp [intOf]; omega
    · obtain rfl : m = x := by omega
      have HF := hide (show St w.heap.size wr p g v' ((Sto.new N K W R).run l) from by
        have h := unhide HS
        rw [List.take_of_length_le (by rw [(unhide HR).ddn]; exact Nat.le_refl _)] at h
        exact h)
      go_wp2
      go_ret
      exact ⟨⟨p, g, v', rfl, unhide HF⟩, unhide HE⟩
end Go.Proofs.Ythmmofalepckgaa

/-
  Plain: what the laws of the store ask. The comparison of what is told; calm deeds.
-/
set_option linter.unusedVariables false
set_option linter.unusedSimpArgs false
namespace Go.Proofs.Ythmmofalepckgaa
open Go.RowKit Go.BigFrame

def toldV (s : ByteArray) (a m : Nat) : Value := .agg #[.string s, .int .i64 (a : Int), .int .i64 0, .int .i64 (m : Int)]
theorem told_raw (s r : ByteArray) (a b m n : Nat) (w : World) : (Op.equalIn 10000 36 (.agg #[.string s, .int .i64 (a : Int), .int .i64 0, .int .i64 (m : Int)]) (.agg #[.string r, .int .i64 (b : Int), .int .i64 0, .int .i64 (n : Int)])).run Try.prog w = .ok (decide (s = r ∧ a = b ∧ m = n)) w := by
  have h1 := Try.underlying36
  have h2 := Try.underlying3
  have h3 := Try.underlying34
  have h4 := Try.underlying9
  by_cases e2 : s = r
  · subst e2
    by_cases e : a = b
    · subst e
      by_cases e3 : m = n
      · subst e3
        rw [decide_eq_true ⟨rfl, rfl, rfl⟩]
        simp [go_sem, h1, h2, h3, h4]
      · have hI : ¬ (m : Int) = (n : Int) := by omega
        rw [decide_eq_false (fun h => e3 h.2.2)]
        simp [go_sem, h1, h2, h3, h4]
        omega
    · have hI : ¬ (a : Int) = (b : Int) := by omega
      rw [decide_eq_false (fun h => e h.2.1)]
      simp [go_sem, h1, h2, h3, h4]
      omega
  · have hs : (s.toList == r.toList) = false := by rw [beq_eq_false_iff_ne]; exact fun h => e2 (str_inj8 h)
    rw [decide_eq_false (fun h => e2 h.1)]
    simp [go_sem, h1, h2, h3, h4, hs, e2]
theorem told_eql (s r : ByteArray) (a b m n : Nat) (w : World) : (binOp .eql 36 (.agg #[.string s, .int .i64 (a : Int), .int .i64 0, .int .i64 (m : Int)]) (.agg #[.string r, .int .i64 (b : Int), .int .i64 0, .int .i64 (n : Int)])).run Try.prog w = .ok (.bool (decide (s = r ∧ a = b ∧ m = n))) w := by
  rw [run_eql_struct, told_raw]; rfl
theorem told_neq (s r : ByteArray) (a b m n : Nat) (w : World) : (binOp .neq 36 (.agg #[.string s, .int .i64 (a : Int), .int .i64 0, .int .i64 (m : Int)]) (.agg #[.string r, .int .i64 (b : Int), .int .i64 0, .int .i64 (n : Int)])).run Try.prog w = .ok (.bool (!decide (s = r ∧ a = b ∧ m = n))) w := by
  rw [run_neq_struct, told_raw]; rfl
def calmB (kind : Int) : Bool := decide (kind ≠ 6 ∧ kind ≠ 7)
namespace Sto
theorem doS_err (σ : Sto) (kind key n : Int) (s : ByteArray) (h : (σ.doS kind key n s).1.err ≠ 0) : (σ.doS kind key n s).1 = Ans.no (σ.doS kind key n s).1.err := by
  refine doS_cases σ kind key n s (P := fun r => r.1.err ≠ 0 → r.1 = Ans.no r.1.err) (fun _ _ => rfl) ?_ ?_ ?_ ?_ (fun _ _ => atS_no _ _ _ _) h
  · intro _ _; unfold putS; split
    · exact fun _ => rfl
    · exact fun h => absurd rfl h
  · intro _ _; unfold tornS; split
    · exact fun _ => rfl
    · exact fun h => absurd rfl h
  · intro _ _; unfold getS; split
    · exact fun _ => rfl
    · exact fun h => absurd rfl h
  · intro _ _; unfold scrubS; split
    · exact fun _ => rfl
    · exact fun h => absurd rfl h
/-- What StoreReads carries along: by the key, what was written then stands, or what is newer. -/
structure Since (σ : Sto) (H : Nat → Nat × ByteArray) (key S : Nat) (text : ByteArray) : Prop where
  ok : Ok σ H
  stands : ∃ T, S ≤ T ∧ Stands σ H key T
  was : H S = (key, text)
theorem Since.step {σ : Sto} {H : Nat → Nat × ByteArray} {key S : Nat} {text : ByteArray} (Q : Since σ H key S text) (hk : key < 3) (kind k n : Int) (s : ByteArray) (h6 : kind ≠ 6) (h7 : kind ≠ 7) : Since (σ.doS kind k n s).2 (hist σ H kind k n s) key S text := by
  obtain ⟨T, hT, hS⟩ := Q.stands
  obtain ⟨T', hT', hS', -⟩ := hS.step Q.ok hk kind k n s h6 h7
  exact ⟨Q.ok.do_ kind k n s, ⟨T', Nat.le_trans hT hT', hS'⟩, by rw [hist_old _ _ _ _ (Nat.le_trans hT hS.2.1)]; exact Q.was⟩
theorem Since.put {σ : Sto} {H : Nat → Nat × ByteArray} (O : Ok σ H) (key n : Int) (text : ByteArray) (he : (σ.doS 1 key n text).1.err = 0) : isKey key ∧ Since (σ.doS 1 key n text).2 (hist σ H 1 key n text) key.toNat (σ.doS 1 key n text).1.at_ text := by
  obtain ⟨h1, h2⟩ := stands_told O 1 key n text (.inl rfl) he
  obtain ⟨a1, a2, -⟩ := put_told (σ := σ) 1 key n text (.inl rfl) he
  refine ⟨h1, O.do_ 1 key n text, ⟨_, Nat.le_refl _, h2⟩, ?_⟩
  unfold hist
  rw [if_neg (by rw [a2]; omega), a1]
  exact ext_same _ _ _ _
theorem Since.get {σ : Sto} {H : Nat → Nat × ByteArray} {S : Nat} {text : ByteArray} {key : Int} (hk : isKey key) (Q : Since σ H key.toNat S text) (n : Int) (s : ByteArray) :
    (σ.doS 3 key n s).1 = Ans.no 9 ∨ ((σ.doS 3 key n s).1.err = 0 ∧ (σ.doS 3 key n s).1.many = 0 ∧ S ≤ (σ.doS 3 key n s).1.at_ ∧ ((σ.doS 3 key n s).1.at_ = S → (σ.doS 3 key n s).1.text = text)) := by
  obtain ⟨T, hT, hS⟩ := Q.stands
  by_cases he : (σ.doS 3 key n s).1.err = 0
  · obtain ⟨-, h2, h3, h4, h5⟩ := get_told Q.ok key n s he
    obtain ⟨-, -, -, hge⟩ := hS.step Q.ok (isKey_lt hk) 3 key n s (by decide) (by decide)
    refine .inr ⟨he, h5, Nat.le_trans hT (hge rfl rfl he), fun e => ?_⟩
    rw [e, Q.was] at h4
    exact (congrArg Prod.snd h4).symm
  · refine .inl ?_
    have h0 := doS_err σ 3 key n s he
    have : (σ.doS 3 key n s).1.err = 9 := by
      rw [doS_ok (by rintro (h | h | h)
                     · omega
                     · omega
                     · exact h.2 hk), if_neg (by decide), if_neg (by decide), if_pos rfl] at he ⊢
      unfold getS at he ⊢
      rcases hS.read Q.ok (isKey_lt hk) with h | h
      · rw [h, if_pos (by decide)]; rfl
      · rw [h.1, if_neg (by decide)] at he; exact absurd rfl he
    rw [h0, this]
end Sto
end Go.Proofs.Ythmmofalepckgaa

/-
  The contract of (*Store).Look.
-/
set_option linter.unusedVariables false
set_option linter.unusedSimpArgs false
namespace Go.Proofs.Ythmmofalepckgaa
open Go.RowKit Go.BigFrame


end Go.Proofs.Ythmmofalepckgaa

/-
  A store beside blocks that are none of its own.
-/
set_option linter.unusedVariables false
set_option linter.unusedSimpArgs false
namespace Go.Proofs.Ythmmofalepckgaa
open Go.RowKit Go.BigFrame

/-- A store lies there, and the blocks X are none of its own. -/
def Has (b0 : Nat) (w : World) (p g : Nat) (σ : Sto) (X : Nat → Prop) : Prop :=
  ∃ v, St b0 w p g v σ ∧ ∀ x, X x → ¬ foot p g v σ.N x ∧ x < w.heap.size
section
variable {b0 p g : Nat} {w w' : World} {σ σ' : Sto} {X Y : Nat → Prop}
theorem Has.start {v : Nat → Nat → Value} (S : St b0 w p g v σ) (hb : b0 ≤ w.heap.size) (hX : ∀ x, X x → x < b0) : Has b0 w p g σ X :=
  ⟨v, S, fun x hx => ⟨fun h => by have := S.foot_lo h; have := hX x hx; omega, Nat.lt_of_lt_of_le (hX x hx) hb⟩⟩
theorem Has.keep (h : Has b0 w p g σ X) (E : Ext w w') : Has b0 w' p g σ X := by
  obtain ⟨v, S, hx⟩ := h
  exact ⟨v, S.keep E, fun x h => ⟨(hx x h).1, Nat.lt_of_lt_of_le (hx x h).2 E.size⟩⟩
/-- What was made meanwhile is none of its own. -/
theorem Has.grow (h : Has b0 w p g σ X) (E : Ext w w') : Has b0 w' p g σ (fun x => X x ∨ (w.heap.size ≤ x ∧ x < w'.heap.size)) := by
  obtain ⟨v, S, hx⟩ := h
  refine ⟨v, S.keep E, fun x h => ?_⟩
  rcases h with h | h
  · exact ⟨(hx x h).1, Nat.lt_of_lt_of_le (hx x h).2 E.size⟩
  · exact ⟨fun hf => by have := S.foot_hi hf; omega, h.2⟩
theorem Has.less (h : Has b0 w p g σ X) (hY : ∀ x, Y x → X x) : Has b0 w p g σ Y := by
  obtain ⟨v, S, hx⟩ := h
  exact ⟨v, S, fun x h => hx x (hY x h)⟩
theorem Has.do_ (h : Has b0 w p g σ X) (Fi : Fine σ) (kind key n : Int) (s : ByteArray) (hss : (s.size : Int) ≤ 9223372036854775807) :
    Calls Try.prog 7 #[.pointer (some ⟨p, 0, none⟩), deedV kind key n s] w fun e w' => e = .returned (tellV (σ.doS kind key n s).1) ∧ Has b0 w' p g (σ.doS kind key n s).2 X ∧
      (∀ a u, X a.block → w.cell? a = some u → w'.cell? a = some u) ∧ (∀ w0, Ext w0 w → w0.heap.size ≤ b0 → Ext w0 w') ∧ w.heap.size ≤ w'.heap.size := by
  obtain ⟨v, S, hx⟩ := h
  refine (do_ok S Fi kind key n s hss).mono ?_
  rintro e w1 ⟨rfl, v2, S2, O2, F2⟩
  have hN := Sto.doS_N σ kind key n s
  refine ⟨rfl, ⟨v2, S2, fun x h => ⟨fun hf => ?_, Nat.lt_of_lt_of_le (hx x h).2 O2.size⟩⟩, fun a u ha hc => O2.keepc hc (hx _ ha).1, fun w0 E0 hw => O2.ext E0 fun x hx => Nat.le_trans hw (S.foot_lo hx), O2.size⟩
  rw [hN] at hf
  rcases F2 x hf with h3 | h3
  · exact (hx x h).1 h3
  · have := (hx x h).2; omega
theorem Has.lt (h : Has b0 w p g σ X) {x : Nat} (hx : X x) : x < w.heap.size := by
  obtain ⟨v, S, hh⟩ := h
  exact (hh x hx).2
/-- What only turns at those that are none of its own. -/
theorem Has.other (h : Has b0 w p g σ X) {F : Nat → Prop} (O : Only F w w') (hF : ∀ x, F x → X x) : Has b0 w' p g σ X := by
  obtain ⟨v, S, hx⟩ := h
  exact ⟨v, S.other O fun x hf hF' => (hx x (hF x hF')).1 hf, fun x h => ⟨(hx x h).1, Nat.lt_of_lt_of_le (hx x h).2 O.size⟩⟩
/-- A row at blocks that are kept. -/
theorem Row.kept {A : Option Addr} {n sz : Nat} {xs : List Value} (R : Row w A n sz xs) (hs : w.heap.size ≤ w'.heap.size) (hX : ∀ b o, A = some ⟨b, o, none⟩ → X b) (hc : ∀ a u, X a.block → w.cell? a = some u → w'.cell? a = some u) (hx : ∀ j, j < n * sz → ∃ u, xs[j]? = some u) : Row w' A n sz xs := by
  refine ⟨R.1, fun h => ?_⟩
  obtain ⟨b, o, hA, hb, hj⟩ := R.2 h
  refine ⟨b, o, hA, Nat.lt_of_lt_of_le hb hs, fun j hjn => ?_⟩
  obtain ⟨u, hu⟩ := hx j hjn
  have h1 := hj j hjn
  rw [hu] at h1 ⊢
  exact hc _ _ (hX b o hA) h1
end
end Go.Proofs.Ythmmofalepckgaa

/-
  A map from stamps to what was written: how it stands beside a store.
-/
set_option linter.unusedVariables false
set_option linter.unusedSimpArgs false
namespace Go.Proofs.Ythmmofalepckgaa
open Go.RowKit Go.BigFrame Go.Maps

/-- A stamp, as a key. -/
def kk (t : Nat) : Lit := .string (keyBytes [.int .i64 (t : Int), .int .i64 0])
theorem stamp_keyed : Keyed Try.prog 34 := Keyed.of_law (deep_law_laid laidOut (m := 10) (by omega) (of_decide_eq_true (by kernel_rfl)) (by kernel_rfl) (by kernel_rfl))
theorem kk_key {t : Nat} (h : t ≤ 1000001) : keyOf Try.prog 34 (.agg #[.int .i64 (t : Int), .int .i64 0]) = some (kk t) := by
  have hw : (Lit.int .i64 (t : Int)).wf = true := WalkArith.wf_i64 (by omega)
  have hw0 : (Lit.int .i64 0).wf = true := by decide
  have hk : Try.prog.keyType 34 = true := by kernel_rfl
  have hf : (Value.agg #[.int .i64 (t : Int), .int .i64 0]).formed Try.prog 34 = true := by
    unfold Value.formed
    rw [Try.underlying34]
    kernel_rfl
  unfold keyOf
  rw [Try.underlying34]
  simp only [hk, hf, Bool.and_self, if_true]
  obtain ⟨d, hd⟩ : ∃ d, Try.prog.types.size + 1 = d + 2 := ⟨Try.prog.types.size - 1, by
    have : 1 ≤ Try.prog.types.size := of_decide_eq_true (by kernel_rfl)
    omega⟩
  have hc1 : Try.prog.cellsOf 34 = 2 := by kernel_rfl
  have hc2 : Try.prog.cellsOf 3 = 1 := by kernel_rfl
  rw [hd]
  simp [Program.keyLits, Try.underlying34, Try.underlying3, Value.cells, hc1, hc2, hw, hw0, kk]

/-- How an element of the map reads. -/
def rdW {H : Type} : Value → Option (DataW H × List MemPlace)
  | .agg cs => match cs.toList with
    | [.int .i64 k, .string s] => some (.agg [.lit (.int .i64 k), .lit (.string s.data.toList)], [])
    | _ => none
  | _ => none
theorem rdW_mk {H : Type} (k : Int) (s : ByteArray) : rdW (H := H) (.agg #[.int .i64 k, .string s]) = some (.agg [.lit (.int .i64 k), .lit (.string s.data.toList)], []) := rfl
theorem rdW_inv {H : Type} {v : Value} {k : Int} {s : ByteArray} {ps : List MemPlace} (h : rdW (H := H) v = some (.agg [.lit (.int .i64 k), .lit (.string s.data.toList)], ps)) : v = .agg #[.int .i64 k, .string s] := by
  unfold rdW at h
  split at h
  · rename_i cs
    split at h
    · rename_i k' s' he
      simp only [Option.some.injEq, Prod.mk.injEq, DataW.agg.injEq, List.cons.injEq, DataW.lit.injEq, Lit.int.injEq, Lit.string.injEq, and_true, true_and] at h
      obtain ⟨⟨rfl, h2⟩, -⟩ := h
      have : s' = s := by
        cases s' with | mk a =>
        cases s with | mk b =>
        simp only at h2
        rw [Array.toList_inj.1 h2]
      subst this
      rw [← Array.toArray_toList (xs := cs), he]
    · cases h
  · cases h
theorem kk_inj {t u : Nat} (ht : t ≤ 1000001) (hu : u ≤ 1000001) (h : kk t = kk u) : t = u := by
  have h1 := kk_key ht
  rw [h] at h1
  have h2 := stamp_keyed.inj h1 (kk_key hu)
  simp only [Value.agg.injEq, Array.mk.injEq, List.cons.injEq, Value.int.injEq, true_and, and_true] at h2
  omega
theorem kk_is (t : Nat) : WideAt.IsKeyLit (kk t) := trivial

/-- What was written, as an element. -/
def wd {Hx : Type} (x : Nat × ByteArray) : DataW Hx := .agg [.lit (.int .i64 (x.1 : Int)), .lit (.string x.2.data.toList)]
/-- The map tells of every write, and of no other. -/
structure Told {Hx : Type} (D : DataW Hx) (wr : Nat) (H : Nat → Nat × ByteArray) : Prop where
  old : ∀ t, 1 ≤ t → t ≤ wr → has D (kk t) = true ∧ ∀ z, D.atKey (kk t) z = wd (H t)
  new : ∀ t, wr < t → t ≤ 1000001 → has D (kk t) = false
theorem Told.start {Hx : Type} (H : Nat → Nat × ByteArray) : Told (.map [] : DataW Hx) 0 H := ⟨fun t h1 h2 => absurd h1 (by omega), fun t _ _ => rfl⟩
theorem Told.put {Hx : Type} {D : DataW Hx} {wr : Nat} {H : Nat → Nat × ByteArray} (T : Told D wr H) (hD : IsMap D) (hw : wr ≤ 1000000) (key : Nat) (s : ByteArray) : Told (D.put (kk (wr + 1)) (wd (key, s))) (wr + 1) (Sto.ext H (wr + 1) key s) where
  old t h1 h2 := by
    by_cases e : t = wr + 1
    · subst e
      rw [Sto.ext_same]
      exact ⟨has_put_same hD (kk_is _) _, fun z => atKey_put_same hD (kk_is _) _ _⟩
    · have hne : kk t ≠ kk (wr + 1) := fun h => e (kk_inj (by omega) (by omega) h)
      rw [Sto.ext_ne _ _ _ e]
      obtain ⟨h3, h4⟩ := T.old t h1 (by omega)
      exact ⟨by rw [has_put_other hne]; exact h3, fun z => by rw [atKey_put_other hne]; exact h4 z⟩
  new t h1 h2 := by
    have hne : kk t ≠ kk (wr + 1) := fun h => by have := kk_inj (by omega) (by omega) h; omega
    rw [has_put_other hne]
    exact T.new t (by omega) h2
theorem Told.same {Hx : Type} {D : DataW Hx} {σ : Sto} {H : Nat → Nat × ByteArray} (T : Told D σ.wr H) (kind key n : Int) (s : ByteArray) (h : (σ.doS kind key n s).2.wr = σ.wr) : Told D (σ.doS kind key n s).2.wr (Sto.hist σ H kind key n s) := by
  rw [h]
  unfold Sto.hist
  rw [if_pos h]
  exact T
theorem doS_wr_same (σ : Sto) (kind key n : Int) (s : ByteArray) (h1 : kind ≠ 1) (h2 : kind ≠ 2) : (σ.doS kind key n s).2.wr = σ.wr := by
  refine Sto.doS_cases σ kind key n s (P := fun r => r.2.wr = σ.wr) (fun _ => rfl) (fun _ h => absurd h h1) (fun _ h => absurd h h2) (fun _ _ => ?_) (fun _ _ => ?_) (fun _ => ?_)
  · unfold Sto.getS; split <;> rfl
  · unfold Sto.scrubS; split <;> rfl
  · unfold Sto.atS
    split
    · rfl
    · split
      · rfl
      · split
        · rfl
        · split
          · rfl
          · split <;> rfl

/-- A deed of a store beside blocks: these stand whole. -/
theorem Has.do2 {b0 p g : Nat} {w : World} {σ : Sto} {X : Nat → Prop} (h : Has b0 w p g σ X) (Fi : Fine σ) (kind key n : Int) (s : ByteArray) (hss : (s.size : Int) ≤ 9223372036854775807) :
    Calls Try.prog 7 #[.pointer (some ⟨p, 0, none⟩), deedV kind key n s] w fun e w' => e = .returned (tellV (σ.doS kind key n s).1) ∧ Has b0 w' p g (σ.doS kind key n s).2 X ∧
      (∀ x, X x → w'.heap[x]? = w.heap[x]?) ∧ (∀ w0, Ext w0 w → w0.heap.size ≤ b0 → Ext w0 w') := by
  obtain ⟨v, S, hx⟩ := h
  refine (do_ok S Fi kind key n s hss).mono ?_
  rintro e w1 ⟨rfl, v2, S2, O2, F2⟩
  have hN := Sto.doS_N σ kind key n s
  refine ⟨rfl, ⟨v2, S2, fun x h => ⟨fun hf => ?_, Nat.lt_of_lt_of_le (hx x h).2 O2.size⟩⟩, fun x h => O2.block x (hx x h).2 (hx x h).1, fun w0 E0 hw => O2.ext E0 fun x hx => Nat.le_trans hw (S.foot_lo hx)⟩
  rw [hN] at hf
  rcases F2 x hf with h3 | h3
  · exact (hx x h).1 h3
  · have := (hx x h).2; omega
theorem ownsMap_block {Hx : Type} {w w' : World} {b n : Nat} {D : DataW Hx} {R : Value → Option (DataW Hx × List MemPlace)} (h : w.ownsMap Try.prog 34 R b n D) (e : w'.heap[b]? = w.heap[b]?) : w'.ownsMap Try.prog 34 R b n D := by
  obtain ⟨es, clock, hb, r⟩ := h
  exact ⟨es, clock, e.trans hb, r⟩
theorem told_err {a : Ans} (h : a.err ≠ 0) (ha : a = Ans.no a.err) : tellV a = .tuple #[.agg #[.string ByteArray.empty, .int .i64 0, .int .i64 0, .int .i64 0], .int .i64 a.err] := by
  rw [ha]; rfl
end Go.Proofs.Ythmmofalepckgaa

/-
  The walk of the law StoreTrue.
-/
set_option linter.unusedVariables false
set_option linter.unusedSimpArgs false
namespace Go.Proofs.Ythmmofalepckgaa
open Go.RowKit Go.BigFrame Go.Maps

theorem zero_written (w : World) : (zeroValue 40).run Try.prog w = .ok (.agg #[.int .i64 0, .string ⟨#[]⟩]) w := by
  first | exact Try.zeroValue40 w | simpa using Try.zeroValue40 w

--{
set_option maxRecDepth 100000 in
set_option maxHeartbeats 8000000 in
theorem true_law (n0 k0 x0 y0 : Int) (A : Option Addr) (m c : Nat) (l : List Dd) (w : World)
    (S1 : SliceIn w A m c 4 40 (dds l)) (h1 : ∀ d ∈ l, (d.s.size : Int) ≤ 9223372036854775807) :
    Calls Try.prog 3 #[.agg #[.int .i64 n0, .int .i64 k0, .int .i64 x0, .int .i64 y0], .slice A m c] w fun e w' => e = .returned (.bool true) ∧ Ext w w' := by
  obtain ⟨R1, hnc1, hrb1, -, -⟩ := S1
  have HR1 := hide R1
  have HH1 := hide h1
  have hm1 : m ≤ 4611686018427387904 := by omega
  clear R1 h1 hrb1 hnc1
  obtain ⟨W0, hW0⟩ : ∃ W0, W0 = w.alloc (.cells #[.int .i64 n0, .int .i64 k0, .int .i64 x0, .int .i64 y0] 23) := ⟨_, rfl⟩
  have HW0 := hide hW0
  have HE0 := hide (show Ext w W0 by rw [hW0]; exact (Ext.refl w).alloc _)
  have Q0 := hide (show W0.cell? ⟨w.heap.size, 0, none⟩ = some (.int .i64 n0) by rw [hW0, new_cell]; rfl)
  have Q1 := hide (show W0.cell? ⟨w.heap.size, 1, none⟩ = some (.int .i64 k0) by rw [hW0, new_cell]; rfl)
  have Q2 := hide (show W0.cell? ⟨w.heap.size, 2, none⟩ = some (.int .i64 x0) by rw [hW0, new_cell]; rfl)
  have Q3 := hide (show W0.cell? ⟨w.heap.size, 3, none⟩ = some (.int .i64 y0) by rw [hW0, new_cell]; rfl)
  clear hW0
  go_enter Try.func3, Try.ntmps3
  go_wp2_with fail
  rw [← unhide HW0]
  refine (kept_ok _).mono ?_
  rintro e w1 ⟨rfl, E1⟩
  have q0 := E1.keep (unhide Q0)
  have q1 := E1.keep (unhide Q1)
  have q2 := E1.keep (unhide Q2)
  have q3 := E1.keep (unhide Q3)
  have HE1 := hide ((unhide HE0).trans E1)
  clear E1
  by_cases hq : qErr n0 k0 x0 y0 = 0
  · obtain ⟨N, K, Wq, Rq, rfl, rfl, rfl, rfl, hq', a1, a2, a3, a4, a5⟩ := qErr_nat hq
    have O := okNew a1 a2 a3 a4 a5
    have CW := hide (fun (W : World) => worked_ok hq' O none 0 0 [] W Row.none_ (by omega) (fun d h => by cases h))
    have HO := hide O
    obtain ⟨σ, hσ⟩ : ∃ σ, σ = (Sto.new N K Wq Rq).run [] := ⟨_, rfl⟩
    have hσ2 : σ = Sto.new N K Wq Rq := by rw [hσ]; rfl
    have hwr0 : σ.wr = 0 := by rw [hσ2]; rfl
    rw [← hσ] at CW
    rw [← hσ2] at HO
    have HWR := hide hwr0
    clear hσ hσ2 hq hq' a1 a2 a3 a4 a5 O hwr0
    go_wp2_with fail
    refine (unhide CW _).mono ?_
    rintro e w2 ⟨⟨p, g, v, rfl, S2⟩, E2⟩
    have HE2 := hide ((unhide HE1).trans E2)
    obtain ⟨b0, hb0⟩ : ∃ b0, b0 = w1.heap.size := ⟨_, rfl⟩
    rw [← hb0] at S2
    have HB0 := hide (show w.heap.size ≤ b0 by rw [hb0]; exact (unhide HE1).size)
    have HM0 := hide (World.ownsMap_made (H := Unit) w2 Try.prog 34 rdW)
    have HH0 := hide (Has.grow (Has.start (X := fun _ => False) S2 (by rw [hb0]; exact E2.size) (fun x h => h.elim)) ((Ext.refl w2).alloc (.map #[] 0)))
    have HS0 := hide ((unhide HH0).less (Y := fun x => x = w2.heap.size) (fun x h => .inr ⟨by omega, by subst h; simp⟩))
    have HE3 := hide ((unhide HE2).alloc (.map #[] 0))
    have HT0 := hide (show Told (Hx := Unit) (.map []) σ.wr (fun _ => (0, ByteArray.empty)) from by rw [unhide HWR]; exact Told.start _)
    obtain ⟨M, hM⟩ : ∃ M, M = w2.heap.size := ⟨_, rfl⟩
    have hmk : (Instr.makeMap 30 none).run Try.prog w2 = .ok (.map (some w2.heap.size)) (w2.alloc (.map #[] 0)) := rfl
    clear S2 E2 CW q0 q1 q2 q3 hb0 HH0
    go_wp2
    rw [← hM] at HM0 HS0 ⊢
    have HMlo := hide (show w.heap.size ≤ M by rw [hM]; exact (unhide HE2).size)
    clear hmk hM
    generalize w2.alloc (.map #[] 0) = w3 at *
    go_loopw [27] (fun i wr => ∃ x : Nat, x ≤ m ∧ i = .int .i64 x ∧ ∃ σ' H' nn D, Hid (Has b0 wr p g σ' (fun y => y = M)) ∧ Hid (Ext w wr) ∧ nn ≤ x ∧ Hid (wr.ownsMap Try.prog 34 (rdW (H := Unit)) M nn D) ∧ Hid (Told D σ'.wr H') ∧ Hid (Sto.Ok σ' H')) (fun i _ => m - (intOf i).toNat)
    case atStart => exact ⟨0, Nat.zero_le _, rfl, σ, _, 0, _, HS0, HE3, Nat.le_refl _, HM0, HT0, HO⟩
    case round =>
      clear HM0 HS0 HE3 HT0 HO
      obtain ⟨x, hx, rfl, σ', H', nn, D, HS, HE, hnn, HM, HT, HO⟩ := hrel
      by_cases hlt : x < m
      · obtain ⟨b, o, rfl, hb, c1, c2, c3, c4⟩ := ((unhide HR1).keep (unhide HE)).dd hlt
        have hxl : x < l.length := by rw [(unhide HR1).ddn]; exact hlt
        have hsz := unhide HH1 _ (dg_mem hxl)
        have hxI : (x : Int) < (m : Int) := by omega
        generalize (dg l x).kind = d1 at *
        generalize (dg l x).key = d2 at *
        generalize (dg l x).n = d3 at *
        generalize (dg l x).s = d4 at *
        obtain ⟨wb, hwb⟩ : ∃ wb, wb = wr.alloc (.cells #[.int .i64 d1, .int .i64 d2, .int .i64 d3, .string d4] 32) := ⟨_, rfl⟩
        have HWB := hide hwb
        have HEb := hide (show Ext wr wb by rw [hwb]; exact (Ext.refl wr).alloc _)
        have B0 := hide (show wb.cell? ⟨wr.heap.size, 0, none⟩ = some (.int .i64 d1) by rw [hwb, new_cell]; rfl)
        have B1 := hide (show wb.cell? ⟨wr.heap.size, 1, none⟩ = some (.int .i64 d2) by rw [hwb, new_cell]; rfl)
        have B3 := hide (show wb.cell? ⟨wr.heap.size, 3, none⟩ = some (.string d4) by rw [hwb, new_cell]; rfl)
        have HX := hide (((unhide HS).grow (unhide HEb)).less (Y := fun y => y = M ∨ y = wr.heap.size) (fun y h => by
          rcases h with h | h
          · exact .inl h
          · exact .inr ⟨by omega, by rw [h, hwb]; simp⟩))
        have CD := hide ((unhide HX).do2 (unhide HO).fine d1 d2 d3 d4 hsz)
        have HMb := hide (ownsMap_block (w' := wb) (unhide HM) (by rw [hwb]; exact (World.grownBy_alloc wr _ none).block M (unhide HM).lt (by simp)))
        have HO2 := hide ((unhide HO).do_ d1 d2 d3 d4)
        clear hwb HS HM hsz
        go_wp2_with fail
        rw [← unhide HWB]
        refine (unhide CD).mono ?_
        rintro e w5 ⟨rfl, S5, hbl, hext⟩
        have hk5 : ∀ a u, (a.block = M ∨ a.block = wr.heap.size) → wb.cell? a = some u → w5.cell? a = some u := fun a u ha hc => (World.cell?_of_block (hbl _ ha)).trans hc
        have b0' := hk5 _ _ (.inr rfl) (unhide B0)
        have b1' := hk5 _ _ (.inr rfl) (unhide B1)
        have b3' := hk5 _ _ (.inr rfl) (unhide B3)
        have HM5 := hide (ownsMap_block (unhide HMb) (hbl M (.inl rfl)))
        have HE5 := hide (hext w ((unhide HE).trans (unhide HEb)) (unhide HB0))
        have HS5 := hide S5
        clear S5 hbl hext hk5 CD HX HMb B0 B1 B3
        by_cases he : (σ'.doS d1 d2 d3 d4).1.err = 0
        · obtain ⟨an, han⟩ : ∃ an, an = (σ'.doS d1 d2 d3 d4).1 := ⟨_, rfl⟩
          have HAN := hide han
          rw [← han] at he ⊢
          obtain ⟨tx, at_, mn, er⟩ := an
          simp only at he
          subst he
          rw [show tellV ⟨tx, at_, mn, 0⟩ = .tuple #[.agg #[.string tx, .int .i64 (at_ : Int), .int .i64 0, .int .i64 (mn : Int)], .int .i64 0] from rfl]
          obtain ⟨wa, hwa⟩ : ∃ wa, wa = w5.alloc (.cells #[.string tx, .int .i64 (at_ : Int), .int .i64 0, .int .i64 (mn : Int)] 36) := ⟨_, rfl⟩
          have HWA := hide hwa
          have HEa := hide (show Ext w5 wa by rw [hwa]; exact (Ext.refl w5).alloc _)
          have t0 := show wa.cell? ⟨w5.heap.size, 0, none⟩ = some (.string tx) by rw [hwa, new_cell]; rfl
          have t1 := show wa.cell? ⟨w5.heap.size, 1, none⟩ = some (.int .i64 (at_ : Int)) by rw [hwa, new_cell]; rfl
          have t2 := show wa.cell? ⟨w5.heap.size, 2, none⟩ = some (.int .i64 0) by rw [hwa, new_cell]; rfl
          have b0' := (unhide HEa).keep b0'
          have b1' := (unhide HEa).keep b1'
          have b3' := (unhide HEa).keep b3'
          have HMa := hide (ownsMap_block (w' := wa) (unhide HM5) (by rw [hwa]; exact (World.grownBy_alloc w5 _ none).block M (unhide HM5).lt (by simp)))
          have HEw := hide ((unhide HE5).trans (unhide HEa))
          have HSa := hide (((unhide HS5).less (Y := fun y => y = M) (fun y h => .inl h)).keep (unhide HEa))
          clear hwa han HM5 HE5 HS5
          by_cases h12 : d1 = 1 ∨ d1 = 2
          · have hpt := Sto.put_told (σ := σ') d1 d2 d3 d4 h12 (by rw [← unhide HAN])
            rw [← unhide HAN] at hpt
            obtain ⟨hat, hwr, hik, -, -, -⟩ := hpt
            simp only at hat
            have hfew := (unhide HO2).few
            have hfew0 := (unhide HO).few
            rw [hwr] at hfew
            have hno := (unhide HT).new at_ (by omega) (by omega)
            obtain ⟨vv, ps, hrun, hv⟩ := (unhide HMa).look_ok stamp_keyed (t := 30) Try.underlying30 (zero_written wa) (rdW_mk 0 ⟨#[]⟩) (kk_key (t := at_) (by omega))
            rw [atKey_of_not_has hno] at hv
            have hvv : vv = .agg #[.int .i64 0, .string ⟨#[]⟩] := rdW_inv hv
            subst hvv
            rw [hno] at hrun
            obtain ⟨kq, rfl⟩ : ∃ kq : Nat, d2 = (kq : Int) := ⟨d2.toNat, by unfold Sto.isKey at hik; omega⟩
            obtain ⟨wc, hwc⟩ : ∃ wc, wc = wa.alloc (.cells #[.int .i64 0, .string ⟨#[]⟩] 40) := ⟨_, rfl⟩
            have HWC := hide hwc
            have HEc := hide (show Ext wa wc by rw [hwc]; exact (Ext.refl wa).alloc _)
            have HMc := hide (ownsMap_block (w' := wc) (unhide HMa) (by rw [hwc]; exact (World.grownBy_alloc wa _ none).block M (unhide HMa).lt (by simp)))
            have t1c := (unhide HEc).keep t1
            have t2c := (unhide HEc).keep t2
            have b1c := (unhide HEc).keep b1'
            have b3c := (unhide HEc).keep b3'
            obtain ⟨w7, hrun2, hM7, hg7⟩ := (unhide HMc).update stamp_keyed (t := 30) Try.underlying30 (by unfold maxLen; omega) (kk_key (t := at_) (by omega)) (rdW_mk (kq : Int) d4)
            have HM7 := hide hM7
            have HS7 := hide (((unhide HSa).keep (unhide HEc)).other (F := fun y => y = M) (Only.grown hg7 (fun k h => by injection h with h; exact h.symm)) (fun y h => h))
            have HE7 := hide (((unhide HEw).trans (unhide HEc)).grown hg7 (fun q h => by injection h with h; rw [← h]; exact unhide HMlo))
            have HT7 := hide (show Told (Hx := Unit) (D.put (kk at_) (wd (kq, d4))) (σ'.doS d1 (kq : Int) d3 d4).2.wr (Sto.hist σ' H' d1 (kq : Int) d3 d4) from by
              rw [hwr, hat]
              unfold Sto.hist
              rw [if_neg (by rw [hwr]; omega), Int.toNat_natCast]
              exact (unhide HT).put (unhide HMa).isMap (by omega) kq d4)
            clear hno hv hM7 hg7 hfew hfew0 hat hwr hik hwc
            rcases h12 with rfl | rfl
            all_goals
              go_upto_region 11 with fail
              rw [← unhide HWA]
              go_upto_region 18 with fail
              rw [← unhide HWC]
              go_wp2
              go_roundw
              case rel => exact ⟨x + 1, by omega, by go_num, _, _, nn + 1, _, HS7, HE7, by omega, HM7, HT7, HO2⟩
              case measure => simp [intOf]; omega
          · have hw := doS_wr_same σ' d1 d2 d3 d4 (fun h => h12 (.inl h)) (fun h => h12 (.inr h))
            have HT2 := hide ((unhide HT).same d1 d2 d3 d4 hw)
            by_cases h3 : d1 = 3
            · subst h3
              have hgt := Sto.get_told (unhide HO) d2 d3 d4 (by rw [← unhide HAN])
              rw [← unhide HAN] at hgt
              obtain ⟨hik, g1, g2, g3, -⟩ := hgt
              simp only at g1 g2 g3
              have hfew := (unhide HO).few
              obtain ⟨hh1, hh2⟩ := (unhide HT).old at_ g1 g2
              rw [g3] at hh2
              obtain ⟨vv, ps, hrun, hv⟩ := (unhide HMa).look_ok stamp_keyed (t := 30) Try.underlying30 (zero_written wa) (rdW_mk 0 ⟨#[]⟩) (kk_key (t := at_) (by omega))
              rw [hh2] at hv
              obtain ⟨kq, rfl⟩ : ∃ kq : Nat, d2 = (kq : Int) := ⟨d2.toNat, by unfold Sto.isKey at hik; omega⟩
              rw [Int.toNat_natCast] at hv
              have hvv : vv = .agg #[.int .i64 (kq : Int), .string tx] := rdW_inv hv
              subst hvv
              rw [hh1] at hrun
              have b1A := fun o => ((Ext.refl wa).alloc o).keep b1'
              have t0A := fun o => ((Ext.refl wa).alloc o).keep t0
              clear h12 hw hh1 hh2 hv hik g1 g2 g3 hfew
              go_upto_region 11 with fail
              rw [← unhide HWA]
              go_wp2
              go_roundw
              case rel => exact ⟨x + 1, by omega, by go_num, _, _, nn, D, hide ((unhide HSa).keep ((Ext.refl wa).alloc _)), hide ((unhide HEw).alloc _), by omega, hide ((unhide HMa).alloc _), HT2, HO2⟩
              case measure => simp [intOf]; omega
            · have k1 : (d1 == 1) = false := by rw [beq_eq_false_iff_ne]; exact fun h => h12 (.inl h)
              have k2 : (d1 == 2) = false := by rw [beq_eq_false_iff_ne]; exact fun h => h12 (.inr h)
              have k3 : (d1 == 3) = false := by rw [beq_eq_false_iff_ne]; exact h3
              clear h12 h3 hw
              go_upto_region 11 with fail
              rw [← unhide HWA]
              go_wp2
              go_roundw
              case rel => exact ⟨x + 1, by omega, by go_num, _, _, nn, D, HSa, HEw, by omega, HMa, HT2, HO2⟩
              case measure => simp [intOf]; omega
        · rw [told_err he (Sto.doS_err _ _ _ _ _ he)]
          have hsame := Sto.doS_same σ' d1 d2 d3 d4 he
          rw [hsame] at HS5
          have HSN := hide ((unhide HS5).less (Y := fun y => y = M) (fun y h => .inl h))
          have hB : ((σ'.doS d1 d2 d3 d4).1.err != 0) = true := by rw [bne_iff_ne]; exact he
          generalize (σ'.doS d1 d2 d3 d4).1.err = er at *
          clear HO2 hsame
          go_wp2
          go_roundw
          case rel => exact ⟨x + 1, by omega, by go_num, σ', H', nn, D, hide ((unhide HSN).keep ((Ext.refl w5).alloc _)), hide ((unhide HE5).alloc _), by omega, hide ((unhide HM5).alloc _), HT, HO⟩
          case measure => simp [intOf]; omega
      · obtain rfl : m = x := by omega
        go_wp2
        go_ret
        exact ⟨rfl, unhide HE⟩
  · have CW := hide (fun (W : World) => worked_bad n0 k0 x0 y0 none 0 0 W hq)
    have CQ := hide (fun (W : World) => qchk_ok n0 k0 x0 y0 W)
    have hB : (qErr n0 k0 x0 y0 != 0) = true := by rw [bne_iff_ne]; exact hq
    generalize qErr n0 k0 x0 y0 = r at *
    clear hq
    go_wp2_with fail
    refine (unhide CW _).mono ?_
    rintro e w2 ⟨rfl, E2⟩
    have q0 := E2.keep q0
    have q1 := E2.keep q1
    have q2 := E2.keep q2
    have q3 := E2.keep q3
    have HE2 := hide ((unhide HE1).trans E2)
    clear E2 CW
    go_wp2_with fail
    refine (unhide CQ _).mono ?_
    rintro e w3 ⟨rfl, E3⟩
    go_wp2
    go_ret
    exact ⟨rfl, (unhide HE2).trans E3⟩
--}
end Go.Proofs.Ythmmofalepckgaa
