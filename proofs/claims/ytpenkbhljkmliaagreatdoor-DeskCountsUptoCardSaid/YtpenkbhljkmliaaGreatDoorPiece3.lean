import Derived.Test.YtpenkbhljkmliaaGreatDoorTri
import Derived.Test.YtpenkbhljkmliaaGreatDoorArith1
import Derived.BigRegion
import Derived.Deep.Cut
import Derived.Deep.CutRange
import Derived.Laws.BytesArg
import Derived.Laws.IdiomStrings
/-
  The checksum of a string, plain, and the contract of piece.Sum.
-/
set_option linter.unusedVariables false
set_option linter.unusedSimpArgs false
namespace Go.Proofs.YtpenkbhljkmliaaGreatDoor
open Go.RowKit Go.BigFrame

theorem u32_and_nat (a b : Nat) (ha : a < 4294967296) (hb : b < 4294967296) : bits .and .u32 (a : Int) (b : Int) = ((a &&& b : Nat) : Int) := by
  have hx : a &&& b < 2 ^ 32 := Nat.and_lt_two_pow _ (by omega)
  show IntKind.u32.wrap ((BitVec.ofInt 32 (a : Int) &&& BitVec.ofInt 32 (b : Int)).toNat : Int) = _
  rw [BitVec.toNat_and, ofInt_nat 32 a (by omega), ofInt_nat 32 b (by omega)]
  exact IntWalk.u32_in _ (by omega)
theorem u32_xor_nat (a b : Nat) (ha : a < 4294967296) (hb : b < 4294967296) : bits .xor .u32 (a : Int) (b : Int) = ((a ^^^ b : Nat) : Int) := by
  have hx : a ^^^ b < 2 ^ 32 := Nat.xor_lt_two_pow (by omega) (by omega)
  show IntKind.u32.wrap ((BitVec.ofInt 32 (a : Int) ^^^ BitVec.ofInt 32 (b : Int)).toNat : Int) = _
  rw [BitVec.toNat_xor, ofInt_nat 32 a (by omega), ofInt_nat 32 b (by omega)]
  exact IntWalk.u32_in _ (by omega)
theorem u32_and_one (a : Nat) (ha : a < 4294967296) : bits .and .u32 (a : Int) 1 = ((a % 2 : Nat) : Int) := by
  rw [show (1 : Int) = ((1 : Nat) : Int) from rfl, u32_and_nat a 1 ha (by omega), Nat.and_one_is_mod]

/-- One bit, eight bits, and a string of the checksum. -/
def crc1 (x : Nat) : Nat := if x % 2 = 1 then x / 2 ^^^ 2197175160 else x / 2
def crcN : Nat → Nat → Nat
  | 0, x => x
  | k + 1, x => crc1 (crcN k x)
def crcS (s : Nat → Nat) : Nat → Nat
  | 0 => 4294967295
  | k + 1 => crcN 8 (crcS s k ^^^ s k)
theorem crc1_lt {x : Nat} (h : x < 4294967296) : crc1 x < 4294967296 := by
  unfold crc1
  split
  · exact Nat.xor_lt_two_pow (n := 32) (by omega) (by omega)
  · omega
theorem crcN_lt {x : Nat} (h : x < 4294967296) : ∀ k, crcN k x < 4294967296
  | 0 => h
  | k + 1 => crc1_lt (crcN_lt h k)
theorem crcS_lt (s : Nat → Nat) (hs : ∀ k, s k < 256) : ∀ k, crcS s k < 4294967296
  | 0 => by show 4294967295 < 4294967296; omega
  | k + 1 => crcN_lt (Nat.xor_lt_two_pow (n := 32) (crcS_lt s hs k) (by have := hs k; omega)) 8

/-- A byte of a string. -/
def sby (s : ByteArray) (k : Nat) : Nat := (s.data.getD k 0).toNat
theorem sby_lt (s : ByteArray) (k : Nat) : sby s k < 256 := UInt8.toNat_lt _
theorem sby_get (s : ByteArray) (k : Nat) (h : k < s.size) : (s[k]'h).toNat = sby s k := by
  unfold sby
  rw [Array.getD_eq_getD_getElem?, Array.getElem?_eq_getElem (by simpa using h)]; rfl

set_option maxRecDepth 100000 in
set_option maxHeartbeats 1000000 in
theorem Sum_any (s : ByteArray) (hs : (s.size : Int) ≤ 9223372036854775807) (w : World) :
    Calls Tryz.prog 122 #[.string s] w fun e w' => e = .returned (.int .u32 ((4294967295 ^^^ crcS (sby s) s.size : Nat) : Int)) ∧ w' = w := by
  obtain ⟨n, hn⟩ : ∃ n, n = s.size := ⟨_, rfl⟩
  have hnI : (s.size : Int) = (n : Int) := by rw [hn]
  have HN := hide hn
  go_enter Tryz.func122, Tryz.ntmps122
  go_wp2
  go_loopw [3, 7] (fun x i wr => ∃ k : Nat, k ≤ n ∧ i = .int .i64 k ∧ (∃ y : Nat, Hid (y = crcS (sby s) k) ∧ x = .int .u32 (y : Int)) ∧ wr = w) (fun _ i _ => n - (intOf i).toNat)
  case atStart => exact ⟨0, Nat.zero_le _, rfl, ⟨4294967295, hide rfl, rfl⟩, rfl⟩
  case round =>
    obtain ⟨k, hk, rfl, ⟨y, hy, rfl⟩, rfl⟩ := hrel
    by_cases hlt : k < n
    · have hb := sby_get s k (by omega)
      have hyl : y < 4294967296 := by rw [unhide hy]; exact crcS_lt _ (sby_lt s) k
      have hx := u32_xor_nat y (sby s k) hyl (by have := sby_lt s k; omega)
      have hks : (k : Int) < (s.size : Int) := by omega
      have hk0 : (0 : Int) ≤ (k : Int) := by omega
      have hv := sby_lt s k
      have hw : IntKind.u32.wrap ((sby s k : Nat) : Int) = ((sby s k : Nat) : Int) := IntWalk.u32_in _ (by omega)
      have HZ := hide (show crcN 8 (y ^^^ sby s k) = crcS (sby s) (k + 1) from by rw [unhide hy]; rfl)
      have hzl : y ^^^ sby s k < 4294967296 := Nat.xor_lt_two_pow (n := 32) hyl (by omega)
      have HZL := hide hzl
      clear hzl hyl
      generalize sby s k = b at *
      generalize y ^^^ b = z at *
      obtain ⟨w4, hw4⟩ : ∃ w4, w4 = wr := ⟨_, rfl⟩
      subst hw4
      go_wp2
      go_loopw [3, 16] (fun x i wr => ∃ j : Nat, j ≤ 8 ∧ i = .int .i64 j ∧ (∃ u : Nat, Hid (u = crcN j z) ∧ x = .int .u32 (u : Int)) ∧ wr = w4) (fun _ i _ => 8 - (intOf i).toNat)
      case atStart => exact ⟨0, by omega, rfl, ⟨z, hide rfl, rfl⟩, rfl⟩
      case round =>
        obtain ⟨j, hj, rfl, ⟨u, hu, rfl⟩, rfl⟩ := hrel
        by_cases hj8 : j < 8
        · have hul : u < 4294967296 := by rw [unhide hu]; exact crcN_lt (unhide HZL) j
          have h1 := u32_and_one u hul
          obtain ⟨q, hq⟩ : ∃ q, q = u / 2 := ⟨_, rfl⟩
          have hqI : (u : Int) / 2 = (q : Int) := by omega
          have hqx := u32_xor_nat q 2197175160 (by omega) (by omega)
          have hjI : (j : Int) < 8 := by omega
          by_cases hodd : u % 2 = 1
          · rw [hodd] at h1
            have h1' : bits .and .u32 (u : Int) 1 = 1 := h1
            have HU := hide (show q ^^^ 2197175160 = crcN (j + 1) z from by
              show _ = crc1 (crcN j z)
              rw [← unhide hu, crc1, if_pos hodd, hq])
            have hqx' : bits .xor .u32 (q : Int) 2197175160 = ((q ^^^ 2197175160 : Nat) : Int) := hqx
            clear h1 hqx hul hodd hq
            generalize q ^^^ 2197175160 = v at *
            go_wp2
            go_roundw
            case rel => exact ⟨j + 1, by omega, by go_num, ⟨v, HU, rfl⟩, by first | rfl | trivial⟩
            case measure => simp [intOf]; omega
          · have h0 : u % 2 = 0 := by omega
            rw [h0] at h1
            have h1' : bits .and .u32 (u : Int) 1 = 0 := h1
            have HU := hide (show q = crcN (j + 1) z from by
              show _ = crc1 (crcN j z)
              rw [← unhide hu, crc1, if_neg hodd, hq])
            clear h1 hqx hul hodd hq h0
            go_wp2
            go_roundw
            case rel => exact ⟨j + 1, by omega, by go_num, ⟨q, HU, rfl⟩, by first | rfl | trivial⟩
            case measure => simp [intOf]; omega
        · obtain rfl : j = 8 := by omega
          go_wp2
          go_roundw
          case rel => exact ⟨k + 1, by omega, by go_num, ⟨u, hide (by rw [unhide hu, unhide HZ]), rfl⟩, by first | rfl | trivial⟩
          case measure => simp [intOf]; omega
    · obtain rfl : k = n := by omega
      have hyl : y < 4294967296 := by rw [unhide hy]; exact crcS_lt _ (sby_lt s) k
      have hfin := hide (show bits .xor .u32 IntKind.u32.max (y : Int) = ((4294967295 ^^^ crcS (sby s) s.size : Nat) : Int) from by
        have h1 := unhide hy
        have h2 := unhide HN
        rw [← h2, ← h1]
        exact u32_xor_nat 4294967295 y (by omega) hyl)
      go_wp2
      go_ret
      refine ⟨?_, rfl⟩
      show Ending.returned (.int .u32 (bits .xor .u32 IntKind.u32.max (y : Int))) = _
      rw [unhide hfin]
end Go.Proofs.YtpenkbhljkmliaaGreatDoor

/-
  A string of which one byte is turned has another checksum.
-/
set_option linter.unusedVariables false
set_option linter.unusedSimpArgs false
namespace Go.Proofs.YtpenkbhljkmliaaGreatDoor

theorem xor_back (a b : Nat) : (a ^^^ b) ^^^ b = a := by rw [Nat.xor_assoc, Nat.xor_self, Nat.xor_zero]
theorem xor_inj {a b c : Nat} (h : a ^^^ c = b ^^^ c) : a = b := by
  have := congrArg (· ^^^ c) h
  simpa [xor_back] using this
theorem crc1_inj {x y : Nat} (hx : x < 4294967296) (hy : y < 4294967296) (h : crc1 x = crc1 y) : x = y := by
  have odd : ∀ a b : Nat, a < 2147483648 → b < 2147483648 → a ^^^ 2197175160 ≠ b := fun a b ha hb e => by
    have h1 : a ^^^ b < 2 ^ 31 := Nat.xor_lt_two_pow (by omega) (by omega)
    rw [← e, ← Nat.xor_assoc, Nat.xor_self, Nat.zero_xor] at h1
    omega
  unfold crc1 at h
  split at h <;> split at h
  · have := xor_inj h; omega
  · exact absurd h (odd _ _ (by omega) (by omega))
  · exact absurd h.symm (odd _ _ (by omega) (by omega))
  · omega
theorem crcN_inj {x y : Nat} (hx : x < 4294967296) (hy : y < 4294967296) : ∀ k, crcN k x = crcN k y → x = y
  | 0, h => h
  | k + 1, h => crcN_inj hx hy k (crc1_inj (crcN_lt hx k) (crcN_lt hy k) h)
theorem crcS_same (s t : Nat → Nat) : ∀ n, (∀ k, k < n → s k = t k) → crcS s n = crcS t n
  | 0, _ => rfl
  | n + 1, h => by
    show crcN 8 (crcS s n ^^^ s n) = crcN 8 (crcS t n ^^^ t n)
    rw [crcS_same s t n (fun k hk => h k (by omega)), h n (by omega)]
theorem crcS_ne (s t : Nat → Nat) (hs : ∀ k, s k < 256) (ht : ∀ k, t k < 256) (j : Nat) (hj : s j ≠ t j) : ∀ n, j < n → (∀ k, k < n → k ≠ j → s k = t k) → crcS s n ≠ crcS t n
  | 0, h, _ => by omega
  | n + 1, hn, h => fun e => by
    have b1 : crcS s n ^^^ s n < 2 ^ 32 := Nat.xor_lt_two_pow (by have := crcS_lt s hs n; omega) (by have := hs n; omega)
    have b2 : crcS t n ^^^ t n < 2 ^ 32 := Nat.xor_lt_two_pow (by have := crcS_lt t ht n; omega) (by have := ht n; omega)
    have e1 : crcS s n ^^^ s n = crcS t n ^^^ t n := crcN_inj (by omega) (by omega) 8 e
    by_cases hjn : j = n
    · subst hjn
      rw [crcS_same s t j (fun k hk => h k (by omega) (by omega)), Nat.xor_comm _ (s j), Nat.xor_comm _ (t j)] at e1
      exact hj (xor_inj e1)
    · rw [h n (by omega) (fun e => hjn e.symm)] at e1
      exact crcS_ne s t hs ht j hj n (by omega) (fun k hk => h k (by omega)) (xor_inj e1)
/-- The checksum tells one byte that is turned. -/
theorem sum_tells (s t : Nat → Nat) (hs : ∀ k, s k < 256) (ht : ∀ k, t k < 256) (j n : Nat) (hj : s j ≠ t j) (hn : j < n) (h : ∀ k, k < n → k ≠ j → s k = t k) : 4294967295 ^^^ crcS s n ≠ 4294967295 ^^^ crcS t n := fun e => by
  rw [Nat.xor_comm, Nat.xor_comm 4294967295] at e
  exact crcS_ne s t hs ht j hj n hn h (xor_inj e)
end Go.Proofs.YtpenkbhljkmliaaGreatDoor

/-
  The contracts of piece.right and piece.size.
-/
set_option linter.unusedVariables false
set_option linter.unusedSimpArgs false
namespace Go.Proofs.YtpenkbhljkmliaaGreatDoor
open Go.RowKit Go.BigFrame

theorem right_any (k n : Int) (w : World) :
    Calls Tryz.prog 107 #[.int .i64 k, .int .i64 n] w fun e w' => e = .returned (.bool (decide (1 ≤ k ∧ k ≤ n ∧ n ≤ 10))) ∧ w' = w := by
  by_cases h1 : 1 ≤ k
  · by_cases h2 : k ≤ n
    · by_cases h3 : n ≤ 10
      · rw [show decide (1 ≤ k ∧ k ≤ n ∧ n ≤ 10) = true from decide_eq_true ⟨h1, h2, h3⟩]
        go_enter Tryz.func107, Tryz.ntmps107
        go_wp2
        go_ret
        exact ⟨rfl, rfl⟩
      · rw [show decide (1 ≤ k ∧ k ≤ n ∧ n ≤ 10) = false from decide_eq_false (fun h => h3 h.2.2)]
        go_enter Tryz.func107, Tryz.ntmps107
        go_wp2
        go_ret
        exact ⟨rfl, rfl⟩
    · rw [show decide (1 ≤ k ∧ k ≤ n ∧ n ≤ 10) = false from decide_eq_false (fun h => h2 h.2.1)]
      go_enter Tryz.func107, Tryz.ntmps107
      go_wp2
      go_ret
      exact ⟨rfl, rfl⟩
  · rw [show decide (1 ≤ k ∧ k ≤ n ∧ n ≤ 10) = false from decide_eq_false (fun h => h1 h.1)]
    go_enter Tryz.func107, Tryz.ntmps107
    go_wp2
    go_ret
    exact ⟨rfl, rfl⟩

theorem size_any (l k : Nat) (w : World) (hl : l ≤ 1000000) (hk : 1 ≤ k) (hk2 : k ≤ 1000000) :
    Calls Tryz.prog 108 #[.int .i64 (l : Int), .int .i64 (k : Int)] w fun e w' => e = .returned (.int .i64 (((l + k - 1) / k : Nat) : Int)) ∧ w' = w := by
  obtain ⟨q, hq⟩ : ∃ q, q = (l + k - 1) / k := ⟨_, rfl⟩
  have hql : q ≤ l + k - 1 := by rw [hq]; exact Nat.div_le_self _ _
  have hd : ((l : Int) + (k : Int) - 1).tdiv (k : Int) = (q : Int) := by
    rw [Int.tdiv_eq_ediv_of_nonneg (by omega), hq, show ((l : Int) + (k : Int) - 1) = ((l + k - 1 : Nat) : Int) from by omega]; rfl
  have hw1 : IntKind.i64.wrap ((l : Int) + (k : Int)) = (l : Int) + (k : Int) := IntWalk.i64_in _ (by omega)
  have hw2 : IntKind.i64.wrap ((l : Int) + (k : Int) - 1) = (l : Int) + (k : Int) - 1 := IntWalk.i64_in _ (by omega)
  have hw3 : IntKind.i64.wrap (q : Int) = (q : Int) := IntWalk.i64_in _ (by omega)
  have k0 : ((k : Int) == 0) = false := by rw [beq_eq_false_iff_ne]; omega
  have k1 : ¬ (k : Int) = 0 := by omega
  have k2 : ¬ k = 0 := by omega
  rw [← hq]
  clear hq hl hk2
  go_enter Tryz.func108, Tryz.ntmps108
  go_wp2
  go_ret
  exact ⟨rfl, rfl⟩
end Go.Proofs.YtpenkbhljkmliaaGreatDoor

/-
  Strings as numbers, and buffers of bytes: seat-neutral (out of Pair3).
-/
set_option linter.unusedVariables false
set_option linter.unusedSimpArgs false
namespace Go.Proofs.YtpenkbhljkmliaaGreatDoor
open Go.RowKit Go.BigFrame

/-- A string of numbers. -/
def strN (l : List Nat) : ByteArray := ⟨(l.map UInt8.ofNat).toArray⟩
theorem strN_size (l : List Nat) : (strN l).size = l.length := by simp [strN, ByteArray.size]
theorem strN_byt (l : List Nat) (h : ∀ x ∈ l, x < 256) {k : Nat} (hk : k < l.length) : sby (strN l) k = l.getD k 0 := by
  unfold sby strN
  rw [Array.getD_eq_getD_getElem?, List.getElem?_toArray, List.getElem?_map, List.getD_eq_getElem?_getD, List.getElem?_eq_getElem hk]
  simp only [Option.map_some, Option.getD_some]
  have := h _ (List.getElem_mem hk)
  rw [UInt8.toNat_ofNat']
  exact Nat.mod_eq_of_lt (by simpa using this)
theorem strN_nums (l : List Nat) : strOfNums (l.map fun (x : Nat) => (x : Int)) = strN l := by
  unfold strOfNums strN
  rw [List.map_map]
  rfl
theorem str_ext {s t : ByteArray} (h : s.size = t.size) (hb : ∀ k, k < s.size → sby s k = sby t k) : s = t := by
  cases s with | mk a =>
  cases t with | mk b =>
  congr 1
  have hs : a.size = b.size := h
  apply Array.ext hs
  intro i h1 h2
  have := hb i h1
  unfold sby at this
  simp only [Array.getD_eq_getD_getElem?, Array.getElem?_eq_getElem h1, Array.getElem?_eq_getElem h2, Option.getD_some] at this
  exact UInt8.toNat_inj.1 this

/-- A row of cells that may be written. -/
def Buf (w : World) (base g : Nat) (xs : List Value) : Prop := base ≤ g ∧ g < w.heap.size ∧ ∀ j, j < xs.length → w.cell? ⟨g, j, none⟩ = xs[j]? ∧ w.frozen? ⟨g, j, none⟩ = false
section
variable {w w' : World} {base g : Nat} {xs : List Value}
theorem Buf.keep (h : Buf w base g xs) (E : Ext w w') : Buf w' base g xs :=
  ⟨h.1, Nat.lt_of_lt_of_le h.2.1 E.size, fun j hj => ⟨(E.cell (p := ⟨g, j, none⟩) h.2.1).trans (h.2.2 j hj).1, (E.frozen (p := ⟨g, j, none⟩) h.2.1).trans (h.2.2 j hj).2⟩⟩
theorem Buf.set (h : Buf w base g xs) {k : Nat} (hk : k < xs.length) (u : Value) : Buf (w.setCell ⟨g, k, none⟩ u) base g (xs.set k u) := by
  refine ⟨h.1, by simpa using h.2.1, fun j hj => ?_⟩
  rw [List.length_set] at hj
  refine ⟨?_, by rw [World.frozen?_setCell]; exact (h.2.2 j hj).2⟩
  by_cases e : k = j
  · subst e
    rw [List.getElem?_set_self hk]
    exact World.cell?_setCell_same' _ _ _ (by rw [(h.2.2 k hk).1, List.getElem?_eq_getElem hk]; rfl)
  · rw [List.getElem?_set_ne e]
    exact (World.cell?_setCell_other _ _ _ _ (by first | (simp; exact e) | simp [e])).trans (h.2.2 j hj).1
theorem Buf.other (h : Buf w base g xs) {p : Addr} (hne : p.block ≠ g) (u : Value) : Buf (w.setCell p u) base g xs :=
  ⟨h.1, by simpa using h.2.1, fun j hj => ⟨(World.cell?_setCell_other _ _ _ _ (fun e => hne (by rw [e]))).trans (h.2.2 j hj).1, by rw [World.frozen?_setCell]; exact (h.2.2 j hj).2⟩⟩
theorem Buf.nat {K : IntKind} {l : List Nat} (h : Buf w base g (nats K l)) {k : Nat} (hk : k < l.length) : w.cell? ⟨g, k, none⟩ = some (.int K ((l.getD k 0 : Nat) : Int)) ∧ w.frozen? ⟨g, k, none⟩ = false := by
  obtain ⟨h1, h2⟩ := h.2.2 k (by rw [nats_length]; exact hk)
  exact ⟨h1.trans (nats_get K l k hk), h2⟩
/-- The string of such bytes. -/
theorem Buf.str {P : Program} {src dst e : TypeId} {l : List Nat} (hs : P.underlying src = some (.slice e)) (he : P.underlying e = some (.int .u8)) (hd : P.underlying dst = some .string) (h : Buf w base g (nats .u8 l)) (c : Nat) :
    (convert src dst (.slice (some ⟨g, 0, none⟩) l.length c)).run P w = .ok (.string (strN l)) w := by
  have := run_convert_bytes_arg w src e hs he g 0 l.length c (l.map fun (x : Nat) => (x : Int)) (by simp) (fun i hi => by
    rw [Nat.zero_add, (h.nat hi).1, List.getD_eq_getElem?_getD, List.getD_eq_getElem?_getD, List.getElem?_map, List.getElem?_eq_getElem hi]; rfl) dst hd
  rw [strN_nums] at this
  exact this
end
theorem Made.buf {w : World} {base e : TypeId} {g n c : Nat} {xs : List Value} (h : Made w base e 1 (.slice (some ⟨g, 0, none⟩) n c) n xs) : Buf w base g xs := by
  have hl : xs.length = n := by have := h.1; omega
  have hlt := h.lt g rfl
  refine ⟨hlt.1, hlt.2, fun j hj => ⟨?_, h.frozen j⟩⟩
  rw [h.cell (by omega), List.getD_eq_getElem?_getD, List.getElem?_eq_getElem hj]; rfl

/-- '[]byte(s)': what it makes. -/
theorem bytes_of (w : World) (s : ByteArray) : ∃ (c : Nat) (W : World), (convert 9 106 (.string s)).run Tryz.prog w = .ok (.slice (some ⟨w.heap.size, 0, none⟩) s.size c) W ∧ Ext w W ∧ s.size ≤ c ∧
    Buf W w.heap.size w.heap.size (nats .u8 ((List.range s.size).map fun k => sby s k)) := by
  have h := run_bytes_of_string (P := Tryz.prog) w 9 106 5 s Tryz.underlying9 Tryz.underlying106 Tryz.underlying5
  refine ⟨_, _, h, ((Ext.refl w).drew).alloc _, grownCap_ge _ _ _ _, ?_⟩
  · refine ⟨Nat.le_refl _, by simp, fun j hj => ?_⟩
    have hjs : j < s.size := by simpa [nats] using hj
    have hbs : s.size ≤ (bytesRow s (grownCap w s.size 0 5)).size := by
      unfold bytesRow
      rw [Array.size_append, Array.size_map]
      exact Nat.le_add_right _ _
    constructor
    · refine (World.cell?_alloc_mark w.drew _ _ _ j).trans ?_
      rw [nats_get .u8 _ j (by simpa using hjs)]
      unfold bytesRow
      rw [Array.getElem?_append_left (by simpa using hjs)]
      simp [sby, hjs, Array.getD_eq_getD_getElem?]
    · have hh : (w.drew.alloc (.cells (bytesRow s (grownCap w s.size 0 5)) 5 ((bytesRow s (grownCap w s.size 0 5)).size, (bytesRow s (grownCap w s.size 0 5)).size + 1))).heap[w.heap.size]? = some (.cells (bytesRow s (grownCap w s.size 0 5)) 5 ((bytesRow s (grownCap w s.size 0 5)).size, (bytesRow s (grownCap w s.size 0 5)).size + 1)) := by
        show (w.heap.push _)[w.heap.size]? = _
        simp
      unfold World.frozen?
      rw [hh]
      simp
      omega
end Go.Proofs.YtpenkbhljkmliaaGreatDoor
