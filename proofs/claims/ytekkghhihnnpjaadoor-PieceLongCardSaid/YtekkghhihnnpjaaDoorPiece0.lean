/-
  The checksum of a string, plain, and the contract of piece.Sum.
-/
import Derived.Test.YtekkghhihnnpjaaDoorBits1
import Derived.Test.YtekkghhihnnpjaaDoorTri
import Derived.Test.YtekkghhihnnpjaaDoorMem
import Derived.Test.YtekkghhihnnpjaaDoorArith1
import Derived.BigRegion
import Derived.Deep.Cut
import Derived.Deep.CutRange
set_option linter.unusedVariables false
set_option linter.unusedSimpArgs false
namespace Go.Proofs.YtekkghhihnnpjaaDoor
open Go.RowKit Go.BigFrame

theorem u32_and_nat (a b : Nat) (ha : a < 4294967296) (hb : b < 4294967296) : bits .and .u32 (a : Int) (b : Int) = ((a &&& b : Nat) : Int) := by
  have hx : a &&& b < 2 ^ 32 := Nat.and_lt_two_pow _ (by omega)
  show IntKind.u32.wrap ((BitVec.ofInt 32 (a : Int) &&& BitVec.ofInt 32 (b : Int)).toNat : Int) = _
  rw [BitVec.toNat_and, ofInt_nat 32 a (by omega), ofInt_nat 32 b (by omega)]
  exact IntWalk.u32_in _ (by omega)
theorem u32_xor_nat (a b : Nat) (ha : a < 4294967296) (hb : b < 4294967296) : bits .xor .u32 (a : Int) (b : Int) = ((a ^^^ b : Nat) : Int) := by
  have hx : a ^^^ b < 2 ^ 32 := Nat.xor_lt_two_pow (by omega) (by omega)
  show IntKind.u32.wrap ((BitVec.ofInt 32 (a : Int) ^^^ BitVec.ofInt 32 (b : Int)).toNat : Int) = _
  rw [BitVec.toNat_xor, ofInt_nat 32 a (by omega), ofInt_nat 32 b (by omega)]
  exact IntWalk.u32_in _ (by omega)
theorem u32_and_one (a : Nat) (ha : a < 4294967296) : bits .and .u32 (a : Int) 1 = ((a % 2 : Nat) : Int) := by
  rw [show (1 : Int) = ((1 : Nat) : Int) from rfl, u32_and_nat a 1 ha (by omega), Nat.and_one_is_mod]

/-- One bit, eight bits, and a string of the checksum. -/
def crc1 (x : Nat) : Nat := if x % 2 = 1 then x / 2 ^^^ 2197175160 else x / 2
def crcN : Nat → Nat → Nat
  | 0, x => x
  | k + 1, x => crc1 (crcN k x)
def crcS (s : Nat → Nat) : Nat → Nat
  | 0 => 4294967295
  | k + 1 => crcN 8 (crcS s k ^^^ s k)
theorem crc1_lt {x : Nat} (h : x < 4294967296) : crc1 x < 4294967296 := by
  unfold crc1
  split
  · exact Nat.xor_lt_two_pow (n := 32) (by omega) (by omega)
  · omega
theorem crcN_lt {x : Nat} (h : x < 4294967296) : ∀ k, crcN k x < 4294967296
  | 0 => h
  | k + 1 => crc1_lt (crcN_lt h k)
theorem crcS_lt (s : Nat → Nat) (hs : ∀ k, s k < 256) : ∀ k, crcS s k < 4294967296
  | 0 => by show 4294967295 < 4294967296; omega
  | k + 1 => crcN_lt (Nat.xor_lt_two_pow (n := 32) (crcS_lt s hs k) (by have := hs k; omega)) 8

/-- A byte of a string. -/
def sby (s : ByteArray) (k : Nat) : Nat := (s.data.getD k 0).toNat
theorem sby_lt (s : ByteArray) (k : Nat) : sby s k < 256 := UInt8.toNat_lt _
theorem sby_get (s : ByteArray) (k : Nat) (h : k < s.size) : (s[k]'h).toNat = sby s k := by
  unfold sby
  rw [Array.getD_eq_getD_getElem?, Array.getElem?_eq_getElem (by simpa using h)]; rfl

set_option maxRecDepth 100000 in
set_option maxHeartbeats 1000000 in
theorem Sum_any (s : ByteArray) (hs : (s.size : Int) ≤ 9223372036854775807) (w : World) :
    Calls Tryd.prog 22 #[.string s] w fun e w' => e = .returned (.int .u32 ((4294967295 ^^^ crcS (sby s) s.size : Nat) : Int)) ∧ w' = w := by
  obtain ⟨n, hn⟩ : ∃ n, n = s.size := ⟨_, rfl⟩
  have hnI : (s.size : Int) = (n : Int) := by rw [hn]
  have HN := hide hn
  go_enter Tryd.func22, Tryd.ntmps22
  go_wp2
  go_loopw [3, 7] (fun x i wr => ∃ k : Nat, k ≤ n ∧ i = .int .i64 k ∧ (∃ y : Nat, Hid (y = crcS (sby s) k) ∧ x = .int .u32 (y : Int)) ∧ wr = w) (fun _ i _ => n - (intOf i).toNat)
  case atStart => exact ⟨0, Nat.zero_le _, rfl, ⟨4294967295, hide rfl, rfl⟩, rfl⟩
  case round =>
    obtain ⟨k, hk, rfl, ⟨y, hy, rfl⟩, rfl⟩ := hrel
    by_cases hlt : k < n
    · have hb := sby_get s k (by omega)
      have hyl : y < 4294967296 := by rw [unhide hy]; exact crcS_lt _ (sby_lt s) k
      have hx := u32_xor_nat y (sby s k) hyl (by have := sby_lt s k; omega)
      have hks : (k : Int) < (s.size : Int) := by omega
      have hk0 : (0 : Int) ≤ (k : Int) := by omega
      have hv := sby_lt s k
      have hw : IntKind.u32.wrap ((sby s k : Nat) : Int) = ((sby s k : Nat) : Int) := IntWalk.u32_in _ (by omega)
      have HZ := hide (show crcN 8 (y ^^^ sby s k) = crcS (sby s) (k + 1) from by rw [unhide hy]; rfl)
      have hzl : y ^^^ sby s k < 4294967296 := Nat.xor_lt_two_pow (n := 32) hyl (by omega)
      have HZL := hide hzl
      clear hzl hyl
      generalize sby s k = b at *
      generalize y ^^^ b = z at *
      obtain ⟨w4, hw4⟩ : ∃ w4, w4 = wr := ⟨_, rfl⟩
      subst hw4
      go_wp2
      go_loopw [3, 16] (fun x i wr => ∃ j : Nat, j ≤ 8 ∧ i = .int .i64 j ∧ (∃ u : Nat, Hid (u = crcN j z) ∧ x = .int .u32 (u : Int)) ∧ wr = w4) (fun _ i _ => 8 - (intOf i).toNat)
      case atStart => exact ⟨0, by omega, rfl, ⟨z, hide rfl, rfl⟩, rfl⟩
      case round =>
        obtain ⟨j, hj, rfl, ⟨u, hu, rfl⟩, rfl⟩ := hrel
        by_cases hj8 : j < 8
        · have hul : u < 4294967296 := by rw [unhide hu]; exact crcN_lt (unhide HZL) j
          have h1 := u32_and_one u hul
          obtain ⟨q, hq⟩ : ∃ q, q = u / 2 := ⟨_, rfl⟩
          have hqI : (u : Int) / 2 = (q : Int) := by omega
          have hqx := u32_xor_nat q 2197175160 (by omega) (by omega)
          have hjI : (j : Int) < 8 := by omega
          by_cases hodd : u % 2 = 1
          · rw [hodd] at h1
            have h1' : bits .and .u32 (u : Int) 1 = 1 := h1
            have HU := hide (show q ^^^ 2197175160 = crcN (j + 1) z from by
              show _ = crc1 (crcN j z)
              rw [← unhide hu, crc1, if_pos hodd, hq])
            have hqx' : bits .xor .u32 (q : Int) 2197175160 = ((q ^^^ 2197175160 : Nat) : Int) := hqx
            clear h1 hqx hul hodd hq
            generalize q ^^^ 2197175160 = v at *
            go_wp2
            go_roundw
            case rel => exact ⟨j + 1, by omega, by go_num, ⟨v, HU, rfl⟩, by first | rfl | trivial⟩
            case measure => simp [intOf]; omega
          · have h0 : u % 2 = 0 := by omega
            rw [h0] at h1
            have h1' : bits .and .u32 (u : Int) 1 = 0 := h1
            have HU := hide (show q = crcN (j + 1) z from by
              show _ = crc1 (crcN j z)
              rw [← unhide hu, crc1, if_neg hodd, hq])
            clear h1 hqx hul hodd hq h0
            go_wp2
            go_roundw
            case rel => exact ⟨j + 1, by omega, by go_num, ⟨q, HU, rfl⟩, by first | rfl | trivial⟩
            case measure => simp [intOf]; omega
        · obtain rfl : j = 8 := by omega
          go_wp2
          go_roundw
          case rel => exact ⟨k + 1, by omega, by go_num, ⟨u, hide (by rw [unhide hu, unhide HZ]), rfl⟩, by first | rfl | trivial⟩
          case measure => simp [intOf]; omega
    · obtain rfl : k = n := by omega
      have hyl : y < 4294967296 := by rw [unhide hy]; exact crcS_lt _ (sby_lt s) k
      have hfin := hide (show bits .xor .u32 IntKind.u32.max (y : Int) = ((4294967295 ^^^ crcS (sby s) s.size : Nat) : Int) from by
        have h1 := unhide hy
        have h2 := unhide HN
        rw [← h2, ← h1]
        exact u32_xor_nat 4294967295 y (by omega) hyl)
      go_wp2
      go_ret
      refine ⟨?_, rfl⟩
      show Ending.returned (.int .u32 (bits .xor .u32 IntKind.u32.max (y : Int))) = _
      rw [unhide hfin]
end Go.Proofs.YtekkghhihnnpjaaDoor
