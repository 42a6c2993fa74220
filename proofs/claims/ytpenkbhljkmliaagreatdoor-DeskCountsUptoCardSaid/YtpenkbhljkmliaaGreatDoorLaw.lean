/-
  The frame of every law's row: from 'the call returns true and leaves only new blocks' to the row's own post; and how arguments of each type are opened.
-/
import Derived.Test.YtpenkbhljkmliaaGreatDoorTri
import Derived.ChangeSlices
import Derived.SliceStrings
import Derived.SizedLaws
import Derived.WideKeyArgs
import Derived.Lib.SmallJoins
import Derived.Deep.Slices
import Derived.Deep.Fields
set_option linter.unusedVariables false
set_option linter.unusedSimpArgs false
namespace Go.Proofs.YtpenkbhljkmliaaGreatDoor
open Go.ChangeShapes Go.WideShapes Go.ChangeAt Go.RowKit Go.Deep Go.Joins

theorem laidOut : laidOutB Tryz.prog = true := by kernel_rfl

section
variable {H : Type} {enc : TypeId × Value → H} {P : Program}

theorem trodAll_stays (hl : laidOutB P = true) {W W' : World} {sp : Nat → Bool} : ∀ {ts : List TypeId} {vs : List Value} {ds : List (DataW H)} {ps : List MemPlace}, (∀ t ∈ ts, P.readableRec t = true ∧ t < P.types.size) →
    DataW.TrodAll enc P W 0 (fun _ => true) true ts vs ds ps → (∀ p ∈ ps, W.sameAt W' p) → (∀ p ∈ ps, sp p.block = true) → DataW.TrodAll enc P W' 0 sp true ts vs ds ps
  | [], [], [], _, _, h, _, _ => h
  | t :: ts, v :: vs, d :: ds, ps, hr, h, hs, hp => by
    obtain ⟨p, q, h1, h2, rfl⟩ := h
    exact ⟨p, q, WideElems.Trod_stays hl (hr t (by simp)).1 (hr t (by simp)).2 h1 (fun x hx => hs x (by simp [hx])) (fun x hx => hp x (by simp [hx])),
      trodAll_stays hl (fun t ht => hr t (by simp [ht])) h2 (fun x hx => hs x (by simp [hx])) (fun x hx => hp x (by simp [hx])), rfl⟩
  | [], [], _ :: _, _, _, h, _, _ => by simp [DataW.TrodAll] at h
  | [], _ :: _, _, _, _, h, _, _ => by simp [DataW.TrodAll] at h
  | _ :: _, [], _, _, _, h, _, _ => by simp [DataW.TrodAll] at h
  | _ :: _, _ :: _, [], _, _, h, _, _ => by simp [DataW.TrodAll] at h

def readable (P : Program) (ts : List TypeId) : Bool := ts.all fun t => P.readableRec t && decide (t < P.types.size)
theorem readable_spec {ts : List TypeId} (h : readable P ts = true) : ∀ t ∈ ts, P.readableRec t = true ∧ t < P.types.size := fun t ht => by
  have := List.all_eq_true.1 h t ht
  simpa using this

/-- The row's last step. -/
theorem law_end {f : Func} {s : ChangeSpec} {W W' : World} {args : Array Value} {ds gs : List (DataW H)} {before : List MemPlace} {ts : List TypeId} {B : TypeId}
    (hl : laidOutB P = true) (hts : f.params.toList = ts) (hr : readable P ts = true) (hvars : s.vars = []) (hrt : f.resultTypes = #[B]) (hB : P.underlying B = some .bool)
    (hfn : s.fn H (ds ++ gs) = { results := [.lit (.bool true)], args := ds }) (hW : DataW.Whole enc P f.params.toList s.vars false W args.toList ds gs before) (hE : Ext W W') :
    s.post enc P f false true false false W args (.bool true) W' := by
  have hb : Below W.heap.size W W' := hE
  have hW2 := hW
  obtain ⟨p, q, hA, hV, rfl, -, -⟩ := hW2
  rw [hvars] at hV
  obtain ⟨rfl, rfl⟩ := trodVars_none hV
  rw [List.append_nil] at hW
  refine post_of_ext (pa := p) (pv := []) hW (fun _ _ _ => ?_) (fun sp hsp => ?_) (fun sp _ => ?_) (by simp) hE (ok_one hrt rfl (okWide_bool_mk hB _))
  · rw [hfn, hrt]
    exact trodAll_cons_mk (shut_bool hB _) trodAll_mk0
  · rw [hfn]
    rw [hts] at hA ⊢
    have hlt := fun x hx => hW.lt x hx
    exact trodAll_stays hl (readable_spec hr) hA (fun x hx => hb.same (hlt x hx)) hsp
  · rw [hvars, hfn]
    rfl

variable {w : World} {base : Nat} {spare : Nat → Bool} {held : Bool}

/-- Numbers of unsigned kinds are naturals. -/
theorem nat_of_bounds {n : Int} {m : Nat} (h : 0 ≤ n ∧ n ≤ (m : Int)) : ∃ k : Nat, n = k ∧ k ≤ m := ⟨n.toNat, by omega, by omega⟩

theorem open_nat8 {r : Reach} {b0 : Nat} {t : TypeId} {v : Value} {d : DataW H} {ps : List MemPlace} (ht : P.underlying t = some (.int .u8)) (hval : Value.okWide P w r b0 t v) (hd : DataW.Trod enc P w base spare held t v d ps) :
    ∃ n : Nat, v = .int .u8 (n : Int) ∧ n < 256 := by
  obtain ⟨n, rfl, -, -, hw⟩ := open_int ht hval hd
  obtain ⟨k, rfl, hk⟩ := nat_of_bounds (m := 255) (bounds_u8 hw)
  exact ⟨k, rfl, by omega⟩
theorem open_nat16 {r : Reach} {b0 : Nat} {t : TypeId} {v : Value} {d : DataW H} {ps : List MemPlace} (ht : P.underlying t = some (.int .u16)) (hval : Value.okWide P w r b0 t v) (hd : DataW.Trod enc P w base spare held t v d ps) :
    ∃ n : Nat, v = .int .u16 (n : Int) ∧ n < 65536 := by
  obtain ⟨n, rfl, -, -, hw⟩ := open_int ht hval hd
  obtain ⟨k, rfl, hk⟩ := nat_of_bounds (m := 65535) (bounds_u16 hw)
  exact ⟨k, rfl, by omega⟩
theorem open_nat32 {r : Reach} {b0 : Nat} {t : TypeId} {v : Value} {d : DataW H} {ps : List MemPlace} (ht : P.underlying t = some (.int .u32)) (hval : Value.okWide P w r b0 t v) (hd : DataW.Trod enc P w base spare held t v d ps) :
    ∃ n : Nat, v = .int .u32 (n : Int) ∧ n < 4294967296 := by
  obtain ⟨n, rfl, -, -, hw⟩ := open_int ht hval hd
  obtain ⟨k, rfl, hk⟩ := nat_of_bounds (m := 4294967295) (bounds_u32 hw)
  exact ⟨k, rfl, by omega⟩
theorem open_nat64 {r : Reach} {b0 : Nat} {t : TypeId} {v : Value} {d : DataW H} {ps : List MemPlace} (ht : P.underlying t = some (.int .u64)) (hval : Value.okWide P w r b0 t v) (hd : DataW.Trod enc P w base spare held t v d ps) :
    ∃ n : Nat, v = .int .u64 (n : Int) ∧ n < 18446744073709551616 := by
  obtain ⟨n, rfl, -, -, hw⟩ := open_int ht hval hd
  obtain ⟨k, rfl, hk⟩ := nat_of_bounds (m := 18446744073709551615) (bounds_u64 hw)
  exact ⟨k, rfl, by omega⟩
theorem open_num {r : Reach} {b0 : Nat} {t : TypeId} {v : Value} {d : DataW H} {ps : List MemPlace} (ht : P.underlying t = some (.int .i64)) (hval : Value.okWide P w r b0 t v) (hd : DataW.Trod enc P w base spare held t v d ps) :
    ∃ n : Int, v = .int .i64 n ∧ -9223372036854775808 ≤ n ∧ n ≤ 9223372036854775807 := by
  obtain ⟨n, rfl, -, -, hw⟩ := open_int ht hval hd
  exact ⟨n, rfl, bounds_i64 hw⟩
theorem open_str {r : Reach} {b0 : Nat} {t : TypeId} {v : Value} {d : DataW H} {ps : List MemPlace} (ht : P.underlying t = some .string) (hval : Value.okWide P w r b0 t v) (hd : DataW.Trod enc P w base spare held t v d ps) :
    ∃ s : ByteArray, v = .string s ∧ d = .lit (.string s.data.toList) := by
  obtain ⟨s, rfl, hd, -, -⟩ := ChangeMaps.open_string ht hval hd
  exact ⟨s, rfl, hd⟩

theorem str_reach {s : ByteArray} (h : s.data.toList.length ≤ reachBytes) : (s.size : Int) ≤ 140737488351232 := by
  have h1 : s.data.toList.length = s.size := by simp
  unfold reachBytes at h
  omega

/-- A struct of two numbers, by value. -/
theorem open_two {r : Reach} {b0 : Nat} {t i : TypeId} {v : Value} {d : DataW H} {ps : List MemPlace} {f0 f1 : Field} (hs : P.underlying t = some (.struct #[f0, f1])) (hone : oneCellFields P #[f0, f1] = true) (hC : P.cellsOf t = 2)
    (h0 : f0.type = i) (h1 : f1.type = i) (hi : P.underlying i = some (.int .i64)) (hval : Value.okWide P w r b0 t v) (hd : DataW.Trod enc P w base spare held t v d ps) :
    ∃ x y : Int, v = .agg #[.int .i64 x, .int .i64 y] ∧ (-9223372036854775808 ≤ x ∧ x ≤ 9223372036854775807) ∧ (-9223372036854775808 ≤ y ∧ y ≤ 9223372036854775807) := by
  obtain ⟨v0, v1, y0, y1, n, rfl, -, -, t0, t1⟩ := open_agg2 hs hone hC hval hd
  rw [h0] at t0
  rw [h1] at t1
  obtain ⟨x, e0, -, w0⟩ := DataW.trod_int hi t0
  obtain ⟨y, e1, -, w1⟩ := DataW.trod_int hi t1
  simp only [List.cons.injEq, and_true] at e0 e1
  subst e0; subst e1
  exact ⟨x, y, rfl, bounds_i64 w0, bounds_i64 w1⟩
/-- A struct of four numbers, by value. -/
theorem open_four {r : Reach} {b0 : Nat} {t i : TypeId} {v : Value} {d : DataW H} {ps : List MemPlace} {f0 f1 f2 f3 : Field} (hs : P.underlying t = some (.struct #[f0, f1, f2, f3])) (hone : oneCellFields P #[f0, f1, f2, f3] = true) (hC : P.cellsOf t = 4)
    (h0 : f0.type = i) (h1 : f1.type = i) (h2 : f2.type = i) (h3 : f3.type = i) (hi : P.underlying i = some (.int .i64)) (hval : Value.okWide P w r b0 t v) (hd : DataW.Trod enc P w base spare held t v d ps) :
    ∃ x0 x1 x2 x3 : Int, v = .agg #[.int .i64 x0, .int .i64 x1, .int .i64 x2, .int .i64 x3] ∧ (-9223372036854775808 ≤ x0 ∧ x0 ≤ 9223372036854775807) ∧ (-9223372036854775808 ≤ x1 ∧ x1 ≤ 9223372036854775807) ∧
      (-9223372036854775808 ≤ x2 ∧ x2 ≤ 9223372036854775807) ∧ (-9223372036854775808 ≤ x3 ∧ x3 ≤ 9223372036854775807) := by
  obtain ⟨v0, v1, v2, v3, y0, y1, y2, y3, n, rfl, -, -, t0, t1, t2, t3⟩ := open_agg4 hs hone hC hval hd
  rw [h0] at t0
  rw [h1] at t1
  rw [h2] at t2
  rw [h3] at t3
  obtain ⟨x0, e0, -, w0⟩ := DataW.trod_int hi t0
  obtain ⟨x1, e1, -, w1⟩ := DataW.trod_int hi t1
  obtain ⟨x2, e2, -, w2⟩ := DataW.trod_int hi t2
  obtain ⟨x3, e3, -, w3⟩ := DataW.trod_int hi t3
  simp only [List.cons.injEq, and_true] at e0 e1 e2 e3
  subst e0; subst e1; subst e2; subst e3
  exact ⟨x0, x1, x2, x3, rfl, bounds_i64 w0, bounds_i64 w1, bounds_i64 w2, bounds_i64 w3⟩

/-! ### Slices -/
theorem addr_form {W : World} {a : Addr} {n : Nat} {f : Nat → Value} (h : ∀ i, i < n → W.cell? (a.add i) = some (f i)) (hn : 0 < n) : ∃ b o, a = ⟨b, o, none⟩ ∧ b < W.heap.size ∧ ∀ j, j < n → W.cell? ⟨b, o + j, none⟩ = some (f j) := by
  obtain ⟨b, o, s⟩ := a
  have h0 := h 0 hn
  have hs : s = none := by
    cases s with
    | none => rfl
    | some x => simp [Addr.add, World.cell?] at h0; split at h0 <;> simp at h0
  subst hs
  have e : ∀ j, (⟨b, o, none⟩ : Addr).add j = ⟨b, o + j, none⟩ := fun j => by
    unfold Addr.add
    split
    · rename_i h0; simp [h0]
    · rfl
  exact ⟨b, o, rfl, World.block_lt_of_cell? W ⟨b, o + 0, none⟩ (by rw [← e 0, h0]), fun j hj => by rw [← e j]; exact h j hj⟩

/-- A slice that reads as its elements, each of a row of cells. -/
theorem slice_in {W : World} {t e : TypeId} {v : Value} {d : DataW H} {ps : List MemPlace} {sz bytes : Nat} (ht : P.underlying t = some (.slice e)) (hc : P.cellsOf e = sz) (hby : P.bytesOf e = bytes) {r : Reach} {b0 : Nat}
    (hw : ∀ es sp, d = .slice es sp → (es.length + sp.length) * P.bytesOf e ≤ reachBytes)
    (hval : Value.okWide P W r b0 t v) (hd : DataW.Trod enc P W 0 (fun _ => true) true t v d ps) :
    ∃ (A : Option Addr) (n c : Nat) (C : Nat → List Value), v = .slice A n c ∧ n ≤ c ∧ c * bytes ≤ 140737488351232 ∧ c ≤ 9223372036854775807 ∧ (A = none → n = 0 ∧ c = 0) ∧
      ∀ i, i < n → (C i).length = sz ∧ (∃ a, A = some a ∧ ∀ j, j < sz → W.cell? ((a.add (i * sz)).add j) = (C i)[j]?) ∧ ∃ m x, DataW.trod enc P W 0 (fun _ => true) true m e (C i) = some x := by
  obtain ⟨A, n, c, rfl⟩ := okWide_slice ht hval
  obtain ⟨fuel, hf⟩ := hd
  rcases open_slice ht hf with ⟨h0, -⟩ | ⟨a, len, cap, m, n', D, Pl, hcs, -, hl, hm, hmm, hx, hi⟩
  · simp [Value.cells] at h0
    obtain ⟨rfl, rfl, rfl⟩ := h0
    exact ⟨none, 0, 0, fun _ => [], rfl, Nat.le_refl _, by omega, by omega, fun _ => ⟨rfl, rfl⟩, fun i h => absurd h (by omega)⟩
  · simp [Value.cells] at hcs
    obtain ⟨rfl, rfl, rfl⟩ := hcs
    have hd : d = _ := (Prod.ext_iff.1 hx).1
    have hreach := hw _ _ hd
    simp only [if_true] at hmm
    subst hmm
    simp only [List.length_map, List.length_range, hby] at hreach
    rw [show n + (m - n) = m by omega] at hreach
    unfold reachBytes at hreach
    unfold maxLen at hm
    rw [hc] at hi
    refine ⟨some a, n, m, fun i => ((W.cells? 0 (a.add (i * sz)) sz).getD []), rfl, hl, by omega, by omega, fun h => (by cases h), fun i hin => ?_⟩
    obtain ⟨cs', h1, h2⟩ := hi i (by omega)
    obtain ⟨_, hlen, hat⟩ := World.cells?_some h1
    simp only [h1, Option.getD_some]
    exact ⟨hlen, ⟨a, rfl, fun j hj => hat j hj⟩, _, _, h2⟩

theorem cells_of {W : World} {A : Option Addr} {n c sz bytes : Nat} {xs : List Value} (hlen : xs.length = n * sz) (hsz : 0 < sz) (hnc : n ≤ c) (hr : c * bytes ≤ 140737488351232) (hm : c ≤ 9223372036854775807) (hn : A = none → n = 0 ∧ c = 0)
    (hi : ∀ i, i < n → ∃ a, A = some a ∧ ∀ j, j < sz → W.cell? ((a.add (i * sz)).add j) = xs[i * sz + j]?) : SliceIn W A n c sz bytes xs := by
  refine ⟨⟨hlen, fun h0 => ?_⟩, hnc, hr, hm, hn⟩
  obtain ⟨a, rfl, -⟩ := hi 0 h0
  have hall : ∀ k, k < n * sz → W.cell? (a.add k) = some (xs[k]?.getD undef) := fun k hk => by
    obtain ⟨a', e, hc⟩ := hi (k / sz) (Nat.div_lt_of_lt_mul (by rw [Nat.mul_comm]; exact hk))
    injection e with e
    subst e
    have := hc (k % sz) (Nat.mod_lt _ hsz)
    rw [Go.Deep.add_add, Nat.div_add_mod' ] at this
    rw [this, List.getElem?_eq_getElem (by omega)]
    rfl
  obtain ⟨b, o, rfl, hb, hcell⟩ := addr_form hall (Nat.mul_pos h0 hsz)
  exact ⟨b, o, rfl, hb, fun j hj => by rw [hcell j hj, List.getElem?_eq_getElem (by omega)]; rfl⟩

theorem open_nums {W : World} {t e : TypeId} {v : Value} {d : DataW H} {ps : List MemPlace} {r : Reach} {b0 : Nat} (ht : P.underlying t = some (.slice e)) (he : P.underlying e = some (.int .i64)) (hc : P.cellsOf e = 1) (hby : P.bytesOf e = 8)
    (hw : ∀ es sp, d = .slice es sp → (es.length + sp.length) * P.bytesOf e ≤ reachBytes) (hval : Value.okWide P W r b0 t v) (hd : DataW.Trod enc P W 0 (fun _ => true) true t v d ps) :
    ∃ (A : Option Addr) (n c : Nat) (l : List Int), v = .slice A n c ∧ SliceIn W A n c 1 8 (ints l) ∧ ∀ x ∈ l, -9223372036854775808 ≤ x ∧ x ≤ 9223372036854775807 := by
  obtain ⟨A, n, c, C, rfl, hnc, hr, hm, hn, hi⟩ := slice_in ht hc hby hw hval hd
  have each : ∀ i, i < n → ∃ x : Int, C i = [.int .i64 x] ∧ -9223372036854775808 ≤ x ∧ x ≤ 9223372036854775807 := fun i h => by
    obtain ⟨-, -, m, x, hx⟩ := hi i h
    obtain ⟨k, hk, -, hwf⟩ := DataW.trod_int he hx
    exact ⟨k, hk, bounds_i64 hwf⟩
  have hch : ∃ f : Nat → Int, ∀ i, i < n → C i = [.int .i64 (f i)] ∧ -9223372036854775808 ≤ f i ∧ f i ≤ 9223372036854775807 := by
    refine ⟨fun i => if h : i < n then (each i h).choose else 0, fun i h => ?_⟩
    simp only [h, dif_pos]
    exact (each i h).choose_spec
  obtain ⟨f, hf⟩ := hch
  refine ⟨A, n, c, (List.range n).map f, rfl, cells_of (by simp [ints]) (by omega) hnc hr hm hn fun i h => ?_, fun x hx => ?_⟩
  · obtain ⟨-, ⟨a, ha, hcell⟩, -⟩ := hi i h
    refine ⟨a, ha, fun j hj => ?_⟩
    obtain rfl : j = 0 := by omega
    rw [hcell 0 (by omega), (hf i h).1]
    simp [ints, h]
  · obtain ⟨i, h, rfl⟩ := List.mem_map.1 hx
    exact (hf i (List.mem_range.1 h)).2

theorem open_unat {W : World} {t e : TypeId} {v : Value} {d : DataW H} {ps : List MemPlace} {r : Reach} {b0 : Nat} {K : IntKind} {by_ M : Nat} (hK : ∀ x : Int, (Lit.int K x).wf = true → 0 ≤ x ∧ x ≤ (M : Int)) (ht : P.underlying t = some (.slice e)) (he : P.underlying e = some (.int K)) (hc : P.cellsOf e = 1) (hby : P.bytesOf e = by_)
    (hw : ∀ es sp, d = .slice es sp → (es.length + sp.length) * P.bytesOf e ≤ reachBytes) (hval : Value.okWide P W r b0 t v) (hd : DataW.Trod enc P W 0 (fun _ => true) true t v d ps) :
    ∃ (A : Option Addr) (n c : Nat) (l : List Nat), v = .slice A n c ∧ SliceIn W A n c 1 by_ (nats K l) ∧ ∀ x ∈ l, x < M + 1 := by
  obtain ⟨A, n, c, C, rfl, hnc, hr, hm, hn, hi⟩ := slice_in ht hc hby hw hval hd
  have each : ∀ i, i < n → ∃ x : Nat, C i = [.int K (x : Int)] ∧ x < M + 1 := fun i h => by
    obtain ⟨-, -, m, x, hx⟩ := hi i h
    obtain ⟨k, hk, -, hwf⟩ := DataW.trod_int he hx
    obtain ⟨q, rfl, hq⟩ := nat_of_bounds (hK _ hwf)
    exact ⟨q, hk, by omega⟩
  have hch : ∃ f : Nat → Nat, ∀ i, i < n → C i = [.int K (f i : Int)] ∧ f i < M + 1 := by
    refine ⟨fun i => if h : i < n then (each i h).choose else 0, fun i h => ?_⟩
    simp only [h, dif_pos]
    exact (each i h).choose_spec
  obtain ⟨f, hf⟩ := hch
  refine ⟨A, n, c, (List.range n).map f, rfl, cells_of (by simp [nats]) (by omega) hnc hr hm hn fun i h => ?_, fun x hx => ?_⟩
  · obtain ⟨-, ⟨a, ha, hcell⟩, -⟩ := hi i h
    refine ⟨a, ha, fun j hj => ?_⟩
    obtain rfl : j = 0 := by omega
    rw [hcell 0 (by omega), (hf i h).1]
    simp [nats, h]
  · obtain ⟨i, h, rfl⟩ := List.mem_map.1 hx
    exact (hf i (List.mem_range.1 h)).2
theorem open_bytes {W : World} {t e : TypeId} {v : Value} {d : DataW H} {ps : List MemPlace} {r : Reach} {b0 : Nat} (ht : P.underlying t = some (.slice e)) (he : P.underlying e = some (.int .u8)) (hc : P.cellsOf e = 1) (hby : P.bytesOf e = 1)
    (hw : ∀ es sp, d = .slice es sp → (es.length + sp.length) * P.bytesOf e ≤ reachBytes) (hval : Value.okWide P W r b0 t v) (hd : DataW.Trod enc P W 0 (fun _ => true) true t v d ps) :
    ∃ (A : Option Addr) (n c : Nat) (l : List Nat), v = .slice A n c ∧ SliceIn W A n c 1 1 (nats .u8 l) ∧ ∀ x ∈ l, x < 256 := open_unat (M := 255) (fun _ h => bounds_u8 h) ht he hc hby hw hval hd
theorem open_words {W : World} {t e : TypeId} {v : Value} {d : DataW H} {ps : List MemPlace} {r : Reach} {b0 : Nat} (ht : P.underlying t = some (.slice e)) (he : P.underlying e = some (.int .u16)) (hc : P.cellsOf e = 1) (hby : P.bytesOf e = 2)
    (hw : ∀ es sp, d = .slice es sp → (es.length + sp.length) * P.bytesOf e ≤ reachBytes) (hval : Value.okWide P W r b0 t v) (hd : DataW.Trod enc P W 0 (fun _ => true) true t v d ps) :
    ∃ (A : Option Addr) (n c : Nat) (l : List Nat), v = .slice A n c ∧ SliceIn W A n c 1 2 (nats .u16 l) ∧ ∀ x ∈ l, x < 65536 := open_unat (M := 65535) (fun _ h => bounds_u16 h) ht he hc hby hw hval hd
theorem open_longs {W : World} {t e : TypeId} {v : Value} {d : DataW H} {ps : List MemPlace} {r : Reach} {b0 : Nat} (ht : P.underlying t = some (.slice e)) (he : P.underlying e = some (.int .u64)) (hc : P.cellsOf e = 1) (hby : P.bytesOf e = 8)
    (hw : ∀ es sp, d = .slice es sp → (es.length + sp.length) * P.bytesOf e ≤ reachBytes) (hval : Value.okWide P W r b0 t v) (hd : DataW.Trod enc P W 0 (fun _ => true) true t v d ps) :
    ∃ (A : Option Addr) (n c : Nat) (l : List Nat), v = .slice A n c ∧ SliceIn W A n c 1 8 (nats .u64 l) ∧ ∀ x ∈ l, x < 18446744073709551616 := open_unat (M := 18446744073709551615) (fun _ h => bounds_u64 h) ht he hc hby hw hval hd

/-- A slice of structs of two numbers. -/
theorem open_pairs {W : World} {t e i0 : TypeId} {v : Value} {d : DataW H} {ps : List MemPlace} {r : Reach} {b0 : Nat} {f0 f1 : Field} (ht : P.underlying t = some (.slice e)) (he : P.underlying e = some (.struct #[f0, f1])) (hone : oneCellFields P #[f0, f1] = true)
    (h0 : f0.type = i0) (h1 : f1.type = i0) (hi0 : P.underlying i0 = some (.int .i64)) (hc : P.cellsOf e = 2) (hby : P.bytesOf e = 16)
    (hw : ∀ es sp, d = .slice es sp → (es.length + sp.length) * P.bytesOf e ≤ reachBytes) (hval : Value.okWide P W r b0 t v) (hd : DataW.Trod enc P W 0 (fun _ => true) true t v d ps) :
    ∃ (A : Option Addr) (n c : Nat) (l : List (Int × Int)), v = .slice A n c ∧ SliceIn W A n c 2 16 (prs l) ∧ ∀ x ∈ l, (-9223372036854775808 ≤ x.1 ∧ x.1 ≤ 9223372036854775807) ∧ (-9223372036854775808 ≤ x.2 ∧ x.2 ≤ 9223372036854775807) := by
  obtain ⟨A, n, c, C, rfl, hnc, hr, hm, hn, hi⟩ := slice_in ht hc hby hw hval hd
  have each : ∀ i, i < n → ∃ x : Int × Int, C i = [.int .i64 x.1, .int .i64 x.2] ∧ (-9223372036854775808 ≤ x.1 ∧ x.1 ≤ 9223372036854775807) ∧ (-9223372036854775808 ≤ x.2 ∧ x.2 ≤ 9223372036854775807) := fun i h => by
    obtain ⟨hl, -, m, x, hx⟩ := hi i h
    obtain ⟨xs, n', -, -, -, hxl, hg⟩ := DataW.trod_struct he hx
    obtain ⟨o0, k0⟩ := hone_of hone 0 f0 rfl
    obtain ⟨o1, k1⟩ := hone_of hone 1 f1 rfl
    have g0 := hg 0 f0 rfl
    have g1 := hg 1 f1 rfl
    rw [o0, k0, h0, List.getElem?_eq_getElem (by rw [hxl]; simp)] at g0
    rw [o1, k1, h1, List.getElem?_eq_getElem (by rw [hxl]; simp)] at g1
    obtain ⟨a, e0, -, w0⟩ := DataW.trod_int hi0 g0
    obtain ⟨b, e1, -, w1⟩ := DataW.trod_int hi0 g1
    refine ⟨(a, b), ?_, bounds_i64 w0, bounds_i64 w1⟩
    match hC : C i, hl with
    | [p, q], _ =>
      rw [hC] at e0 e1
      simp at e0 e1
      rw [e0, e1]
  have hch : ∃ f : Nat → Int × Int, ∀ i, i < n → C i = [.int .i64 (f i).1, .int .i64 (f i).2] ∧ (-9223372036854775808 ≤ (f i).1 ∧ (f i).1 ≤ 9223372036854775807) ∧ (-9223372036854775808 ≤ (f i).2 ∧ (f i).2 ≤ 9223372036854775807) := by
    refine ⟨fun i => if h : i < n then (each i h).choose else (0, 0), fun i h => ?_⟩
    simp only [h, dif_pos]
    exact (each i h).choose_spec
  obtain ⟨f, hf⟩ := hch
  refine ⟨A, n, c, (List.range n).map f, rfl, cells_of (by rw [prs_length]; simp) (by omega) hnc hr hm hn fun i h => ?_, fun x hx => ?_⟩
  · obtain ⟨-, ⟨a, ha, hcell⟩, -⟩ := hi i h
    refine ⟨a, ha, fun j hj => ?_⟩
    rw [hcell j hj, (hf i h).1]
    have hp := prs_get ((List.range n).map f) i (by simpa using h)
    have hgd : ((List.range n).map f).getD i (0, 0) = f i := by simp [List.getD_eq_getElem?_getD, h]
    rw [hgd] at hp
    match j, hj with
    | 0, _ => rw [Nat.add_zero, hp.1]; rfl
    | 1, _ => rw [hp.2]; rfl
  · obtain ⟨i, h, rfl⟩ := List.mem_map.1 hx
    exact (hf i (List.mem_range.1 h)).2
end
end Go.Proofs.YtpenkbhljkmliaaGreatDoor
