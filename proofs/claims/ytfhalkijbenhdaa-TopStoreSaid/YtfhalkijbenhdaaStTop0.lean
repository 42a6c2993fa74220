/-
  Plain: a store in which one text was put, and nodes go down and come up; quorum.Least.
-/
import Derived.Test.YtfhalkijbenhdaaStMends0
import Derived.Test.YtfhalkijbenhdaaSto24
import Derived.Test.YtfhalkijbenhdaaWorks
set_option linter.unusedVariables false
set_option linter.unusedSimpArgs false
namespace Go.Proofs.Ytfhalkijbenhdaa
open Go.RowKit Go.BigFrame

set_option maxRecDepth 100000 in
set_option maxHeartbeats 1000000 in
theorem qLeast_ok (n k : Int) (w : World) (hn : 1 ≤ n ∧ n ≤ 10) (hk : 1 ≤ k ∧ k ≤ n) :
    Calls Try.prog 26 #[.int .i64 n, .int .i64 k] w fun e w' => e = .returned (.tuple #[.agg #[.int .i64 n, .int .i64 k, .int .i64 ((n + k + 1) / 2), .int .i64 ((n + k) / 2)], .int .i64 0]) ∧ Ext w w' := by
  go_enter Try.func26, Try.ntmps26
  go_wp2
  refine bodyPost_ret (v := .tuple #[.agg #[.int .i64 n, .int .i64 k, .int .i64 ((n + k + 1) / 2), .int .i64 ((n + k) / 2)], .int .i64 0]) (by simp [results, Try.results26, go_sem]) rfl ⟨rfl, (Ext.refl _).alloc _⟩
theorem qErr_least {N K W R : Nat} (h1 : 1 ≤ K ∧ K ≤ N) (h2 : N ≤ 10) (h3 : 1 ≤ W ∧ W ≤ N) (h4 : 1 ≤ R ∧ R ≤ N) (h5 : N + K ≤ W + R) : qErr N K W R = 0 := by
  unfold qErr
  rw [if_pos (by omega), if_neg (by omega)]

namespace Sto
structure TopS (τ : Sto) (s : ByteArray) (H : Nat → Nat × ByteArray) : Prop where
  ok : Ok τ H
  wr : τ.wr = 1
  h1 : H 1 = (0, s)
  kept : ∀ i, i < τ.N → τ.kept i 0 = [(1, τ.pce s i)]
theorem ups_new (N K W R : Nat) : (new N K W R).ups = List.range N := by
  unfold ups new
  simp
theorem put_large (N K W R : Nat) {s : ByteArray} (h : 60 < s.size) : ((new N K W R).doS 1 0 0 s).1 = Ans.no 2 := by
  unfold doS
  rw [if_neg (by unfold keyed isKey; omega), if_pos rfl]
  unfold putS
  have : (new N K W R).splitE s = 2 := by unfold splitE; rw [if_pos h]
  rw [this, if_pos (by decide)]
theorem put_small {N K W R : Nat} {H : Nat → Nat × ByteArray} (O : Ok (new N K W R) H) {s : ByteArray} (h : s.size ≤ 60) : ∃ σ1 : Sto, (new N K W R).doS 1 0 0 s = (⟨ByteArray.empty, 1, 0, 0⟩, σ1) ∧ TopS σ1 s (ext H 1 0 s) ∧ σ1.N = N ∧ σ1.K = K ∧ σ1.W = W ∧ σ1.R = R ∧ ∀ i, σ1.down i = false := by
  have hE : (new N K W R).splitE s = 0 := by
    have := O.wn
    have hW : (new N K W R).W = W := rfl
    have hN : (new N K W R).N = N := rfl
    unfold splitE
    rw [if_neg (by omega), ups_new, List.length_range, if_neg (by omega), if_neg (by show ¬ (0 : Nat) = 1000000; decide)]
  have hO := O.put (key := 0) hE
  refine ⟨_, ?_, ⟨hO, rfl, ext_same _ _ _ _, fun i hi => ?_⟩, rfl, rfl, rfl, rfl, fun _ => rfl⟩
  · unfold doS
    rw [if_neg (by unfold keyed isKey; omega), if_pos rfl]
    unfold putS
    rw [hE, if_neg (by decide)]
    rfl
  · show (new N K W R).putK 0 s (new N K W R).ups i 0 = _
    unfold putK
    have hi : i < N := hi
    rw [if_pos ⟨rfl, by rw [ups_new]; exact List.mem_range.2 hi⟩]
    rfl
theorem doS_turn (τ : Sto) {kind : Int} (hk : kind = 4 ∨ kind = 5) (key n : Int) (s : ByteArray) : τ.doS kind key n s = τ.atS kind key n := by
  unfold doS
  rw [if_neg (by unfold keyed; omega), if_neg (by omega), if_neg (by omega), if_neg (by omega), if_neg (by omega)]
theorem atS_turn (τ : Sto) {kind : Int} (hk : kind = 4 ∨ kind = 5) (key n : Int) : ∃ d, (τ.atS kind key n).2 = { τ with down := d } := by
  unfold atS
  by_cases hn : τ.isNode n
  · rw [if_neg (fun h : ¬ τ.isNode n => h hn)]
    rcases hk with rfl | rfl
    · rw [if_pos rfl]; exact ⟨_, rfl⟩
    · rw [if_neg (by decide), if_pos rfl]; exact ⟨_, rfl⟩
  · rw [if_pos hn]; exact ⟨τ.down, rfl⟩
theorem TopS.turn {τ : Sto} {s : ByteArray} {H : Nat → Nat × ByteArray} (T : TopS τ s H) {kind : Int} (hk : kind = 4 ∨ kind = 5) (key n : Int) (t : ByteArray) :
    TopS (τ.doS kind key n t).2 s H ∧ (τ.doS kind key n t).2.N = τ.N ∧ (τ.doS kind key n t).2.K = τ.K ∧ (τ.doS kind key n t).2.W = τ.W ∧ (τ.doS kind key n t).2.R = τ.R := by
  have hO := T.ok.at_ kind key n
  rw [doS_turn τ hk]
  obtain ⟨d, hd⟩ := atS_turn τ hk key n
  rw [hd] at hO ⊢
  exact ⟨⟨hO, T.wr, T.h1, T.kept⟩, rfl, rfl, rfl, rfl⟩
theorem doS_down (τ : Sto) {i : Nat} (hi : i < τ.N) (t : ByteArray) (key : Int) : (τ.doS 4 key (i : Int) t).2.down = fun j => if j = i then true else τ.down j := by
  rw [doS_turn τ (.inl rfl)]
  unfold atS
  rw [if_neg (fun h : ¬ τ.isNode (i : Int) => h ⟨by omega, by omega⟩), if_pos rfl, Int.toNat_natCast]
theorem TopS.few {τ : Sto} {s : ByteArray} {H : Nat → Nat × ByteArray} (_T : TopS τ s H) (t : ByteArray) (h : τ.ups.length < τ.R ∨ τ.ups.length < τ.W) : (τ.doS 3 0 0 t).1 = Ans.no 9 := by
  rw [show τ.doS 3 0 0 t = τ.getS 0 from doS_get (key := 0) (by omega) t]
  have : τ.readE 0 = 9 := by unfold readE; rw [if_pos h]
  unfold getS
  rw [this, if_pos (by decide)]
theorem TopS.get {τ : Sto} {s : ByteArray} {H : Nat → Nat × ByteArray} (T : TopS τ s H) (t : ByteArray) (h : ¬ (τ.ups.length < τ.R ∨ τ.ups.length < τ.W)) : (τ.doS 3 0 0 t).1 = ⟨s, 1, 0, 0⟩ := by
  have hc : τ.ups.length ≤ cnt τ 0 1 (H 1).2 := by
    refine filter_le (f := fun i => !τ.down i) τ.N fun i hi hd => ?_
    rw [Bool.and_eq_true]
    refine ⟨hd, has_iff.2 ?_⟩
    rw [T.h1, T.kept i hi]
    exact List.mem_singleton.2 rfl
  have hm := T.ok.meet
  have hw := T.ok.wn
  have h1 := told_of (key := 0) (T := 1) T.ok (by omega) ⟨by omega, by rw [T.wr]; omega⟩ (by omega) (fun u hu hw => by rw [T.wr] at hw; omega) (by omega) (by omega)
  rw [show τ.doS 3 0 0 t = τ.getS 0 from doS_get (key := 0) (by omega) t]
  unfold getS
  rw [if_neg (fun hh => hh h1.1), h1.2.1, h1.2.2, T.h1]
theorem get_ups (τ : Sto) (t : ByteArray) : (τ.doS 3 0 0 t).2.N = τ.N ∧ (τ.doS 3 0 0 t).2.down = τ.down := by
  rw [show τ.doS 3 0 0 t = τ.getS 0 from doS_get (key := 0) (by omega) t]
  unfold getS
  split <;> exact ⟨rfl, rfl⟩
end Sto
end Go.Proofs.Ytfhalkijbenhdaa
