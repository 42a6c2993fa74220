import Derived.Test.YtpenkbhljkmliaaGreatDoorSto3
/-
  The store in memory: 'St b0 w p g v σ': behind b0 the store's struct lies at block p, its nodes at block g, and v says which slices they keep; together they read as σ. How it stands when other blocks turn, and when its own are written.
-/
set_option linter.unusedVariables false
set_option linter.unusedSimpArgs false
namespace Go.Proofs.YtpenkbhljkmliaaGreatDoor
open Go.RowKit

/-- What a node keeps, as cells. -/
def kps : List (Nat × ByteArray) → List Value
  | [] => []
  | e :: l => .int .i64 (e.1 : Int) :: .int .i64 0 :: .string e.2 :: kps l
theorem kps_length : ∀ l : List (Nat × ByteArray), (kps l).length = l.length * 3
  | [] => rfl
  | e :: l => by simp only [kps, List.length_cons, kps_length l]; omega
theorem kps_append : ∀ l m : List (Nat × ByteArray), kps l ++ kps m = kps (l ++ m)
  | [], _ => rfl
  | e :: l, m => by simp only [kps, List.cons_append, kps_append l m]
def kd (l : List (Nat × ByteArray)) (j : Nat) : Nat × ByteArray := l.getD j (0, ByteArray.empty)
theorem kd_mem {l : List (Nat × ByteArray)} {j : Nat} (h : j < l.length) : kd l j ∈ l := getD_mem l _ h
theorem kps_get : ∀ (l : List (Nat × ByteArray)) (j : Nat), j < l.length → (kps l)[j * 3]? = some (.int .i64 ((kd l j).1 : Int)) ∧ (kps l)[j * 3 + 1]? = some (.int .i64 0) ∧ (kps l)[j * 3 + 2]? = some (.string (kd l j).2)
  | [], j, h => by simp at h
  | e :: l, 0, _ => by simp [kps, kd]
  | e :: l, j + 1, h => by
    have := kps_get l j (by simpa using h)
    rw [show (j + 1) * 3 = j * 3 + 1 + 1 + 1 by omega]
    simpa [kps, kd] using this
theorem kps_one (l : List (Nat × ByteArray)) : ∀ u ∈ kps l, u.oneCell' = true := by
  intro u hu
  induction l with
  | nil => simp [kps] at hu
  | cons e l ih =>
    simp only [kps, List.mem_cons] at hu
    rcases hu with rfl | rfl | rfl | hu
    · rfl
    · rfl
    · rfl
    · exact ih hu
theorem kps_set : ∀ (l : List (Nat × ByteArray)) (j : Nat) (s : ByteArray), j < l.length → (kps l).set (j * 3 + 2) (.string s) = kps (l.set j ((kd l j).1, s))
  | [], j, s, h => by simp at h
  | e :: l, 0, s, _ => by simp [kps, kd]
  | e :: l, j + 1, s, h => by
    have := kps_set l j s (by simpa using h)
    rw [show (j + 1) * 3 + 2 = j * 3 + 2 + 1 + 1 + 1 by omega]
    simpa [kps, kd] using this
theorem Row.kp {w : World} {A : Option Addr} {n j : Nat} {l : List (Nat × ByteArray)} (h : Row w A n 3 (kps l)) (hj : j < n) : ∃ b o, A = some ⟨b, o, none⟩ ∧ b < w.heap.size ∧
    w.cell? ⟨b, o + j * 3, none⟩ = some (.int .i64 ((kd l j).1 : Int)) ∧ w.cell? ⟨b, o + j * 3 + 1, none⟩ = some (.int .i64 0) ∧ w.cell? ⟨b, o + j * 3 + 2, none⟩ = some (.string (kd l j).2) := by
  obtain ⟨b, o, hA, hb, hc⟩ := h.2 (by omega)
  have hl : l.length = n := by have := h.1; rw [kps_length] at this; omega
  have := kps_get l j (by omega)
  exact ⟨b, o, hA, hb, (hc (j * 3) (by omega)).trans this.1, by rw [Nat.add_assoc]; exact (hc (j * 3 + 1) (by omega)).trans this.2.1, by rw [Nat.add_assoc]; exact (hc (j * 3 + 2) (by omega)).trans this.2.2⟩

/-- Only blocks of F (and new ones) turn. -/
structure Only (F : Nat → Prop) (w w' : World) : Prop where
  os : w'.os = w.os
  tape : w'.tape = w.tape
  output : w'.output = w.output
  size : w.heap.size ≤ w'.heap.size
  block : ∀ k, k < w.heap.size → ¬ F k → w'.heap[k]? = w.heap[k]?
section
variable {F G : Nat → Prop} {w w' w'' : World}
theorem Only.of_ext (E : Ext w w') : Only F w w' := ⟨E.os, E.tape, E.output, E.size, fun k hk _ => Below.block E k hk⟩
theorem Only.refl : Only F w w := Only.of_ext (Ext.refl w)
theorem Only.trans (h : Only F w w') (k : Only G w' w'') (hg : ∀ x, G x → F x ∨ w.heap.size ≤ x) : Only F w w'' :=
  ⟨k.os.trans h.os, k.tape.trans h.tape, k.output.trans h.output, Nat.le_trans h.size k.size, fun x hx hn => by
    rw [k.block x (Nat.lt_of_lt_of_le hx h.size) (fun hgx => by
      rcases hg x hgx with h1 | h1
      · exact hn h1
      · omega)]
    exact h.block x hx hn⟩
theorem Only.mono (h : Only F w w') (hg : ∀ x, F x → G x ∨ w.heap.size ≤ x) : Only G w w' :=
  ⟨h.os, h.tape, h.output, h.size, fun x hx hn => h.block x hx fun hf => by
    rcases hg x hf with h1 | h1
    · exact hn h1
    · omega⟩
theorem Only.ext {a : World} (h : Only F w w') (E : Ext a w) (hF : ∀ x, F x → a.heap.size ≤ x) : Ext a w' :=
  ⟨h.os.trans E.os, h.tape.trans E.tape, h.output.trans E.output, Nat.le_trans E.size h.size, fun k hk => (h.block k (Nat.lt_of_lt_of_le hk E.size) (fun hf => by have := hF k hf; omega)).trans (Below.block E k hk)⟩
theorem Only.grown {row : Option Nat} (h : w.grownBy w' row) (hF : ∀ k, row = some k → F k) : Only F w w' := ⟨h.os, h.tape, h.output, h.size, fun k hk hn => h.block k hk fun e => hn (hF k e.symm)⟩
theorem Only.set (h : Only F w w') {a : Addr} (ha : F a.block ∨ w.heap.size ≤ a.block) (u : Value) : Only F w (w'.setCell a u) :=
  ⟨h.os, h.tape, h.output, by simpa using h.size, fun k hk hn => by
    rw [← h.block k hk hn]
    simp only [World.setCell]
    rw [Array.getElem?_modify, if_neg (fun e => by
      rcases ha with h1 | h1
      · exact hn (e ▸ h1)
      · omega)]⟩
end

structure St (b0 : Nat) (w : World) (p g : Nat) (v : Nat → Nat → Value) (σ : Sto) : Prop where
  p_lo : b0 ≤ p
  p_hi : p < w.heap.size
  g_lo : b0 ≤ g
  g_hi : g < w.heap.size
  pg : p ≠ g
  cN : w.cell? ⟨p, 0, none⟩ = some (.int .i64 (σ.N : Int))
  cK : w.cell? ⟨p, 1, none⟩ = some (.int .i64 (σ.K : Int))
  cW : w.cell? ⟨p, 2, none⟩ = some (.int .i64 (σ.W : Int))
  cR : w.cell? ⟨p, 3, none⟩ = some (.int .i64 (σ.R : Int))
  cnodes : w.cell? ⟨p, 4, none⟩ = some (.slice (some ⟨g, 0, none⟩) σ.N σ.N)
  cwr : w.cell? ⟨p, 5, none⟩ = some (.int .i64 (σ.wr : Int))
  fwr : w.frozen? ⟨p, 5, none⟩ = false
  fg : ∀ j, w.frozen? ⟨g, j, none⟩ = false
  cdown : ∀ i, i < σ.N → w.cell? ⟨g, i * 4, none⟩ = some (.bool (σ.down i))
  ckept : ∀ i k, i < σ.N → k < 3 → w.cell? ⟨g, i * 4 + 1 + k, none⟩ = some (v i k)
  own : ∀ i k, i < σ.N → k < 3 → w.ownsRow b0 135 3 (v i k) (σ.kept i k).length (kps (σ.kept i k))
  offp : ∀ i k, i < σ.N → k < 3 → (v i k).ownBlock ≠ some p
  offg : ∀ i k, i < σ.N → k < 3 → (v i k).ownBlock ≠ some g
  apart : ∀ i k j l, i < σ.N → k < 3 → j < σ.N → l < 3 → ¬ (i = j ∧ k = l) → ∀ b, (v i k).ownBlock = some b → (v j l).ownBlock ≠ some b
def foot (p g : Nat) (v : Nat → Nat → Value) (N : Nat) (x : Nat) : Prop := x = p ∨ x = g ∨ ∃ i k, i < N ∧ k < 3 ∧ (v i k).ownBlock = some x

section
variable {b0 p g : Nat} {w w' : World} {v : Nat → Nat → Value} {σ : Sto}
theorem own_kept {base e sz n : Nat} {u : Value} {xs : List Value} (h : w.ownsRow base e sz u n xs) (hb : ∀ b, u.ownBlock = some b → w'.heap[b]? = w.heap[b]?) : w'.ownsRow base e sz u n xs := by
  obtain ⟨h1, h2⟩ := h
  refine ⟨h1, ?_⟩
  rcases h2 with h2 | ⟨q, cap, cur, rfl, hq, hh, r⟩
  · exact .inl h2
  · exact .inr ⟨q, cap, cur, rfl, hq, by rw [hb q rfl]; exact hh, r⟩
theorem St.foot_lo (S : St b0 w p g v σ) {x : Nat} (h : foot p g v σ.N x) : b0 ≤ x := by
  rcases h with rfl | rfl | ⟨i, k, hi, hk, h⟩
  · exact S.p_lo
  · exact S.g_lo
  · exact ((S.own i k hi hk).lt x h).1
theorem St.foot_hi (S : St b0 w p g v σ) {x : Nat} (h : foot p g v σ.N x) : x < w.heap.size := by
  rcases h with rfl | rfl | ⟨i, k, hi, hk, h⟩
  · exact S.p_hi
  · exact S.g_hi
  · exact ((S.own i k hi hk).lt x h).2
/-- Other blocks turn. -/
theorem St.other (S : St b0 w p g v σ) {F : Nat → Prop} (h : Only F w w') (hF : ∀ x, foot p g v σ.N x → ¬ F x) : St b0 w' p g v σ := by
  have hp : w'.heap[p]? = w.heap[p]? := h.block p S.p_hi (hF p (.inl rfl))
  have hg : w'.heap[g]? = w.heap[g]? := h.block g S.g_hi (hF g (.inr (.inl rfl)))
  have cp : ∀ j, w'.cell? ⟨p, j, none⟩ = w.cell? ⟨p, j, none⟩ := fun j => World.cell?_of_block (a := ⟨p, j, none⟩) hp
  have cg : ∀ j, w'.cell? ⟨g, j, none⟩ = w.cell? ⟨g, j, none⟩ := fun j => World.cell?_of_block (a := ⟨g, j, none⟩) hg
  exact { S with
    p_hi := Nat.lt_of_lt_of_le S.p_hi h.size
    g_hi := Nat.lt_of_lt_of_le S.g_hi h.size
    cN := (cp 0).trans S.cN
    cK := (cp 1).trans S.cK
    cW := (cp 2).trans S.cW
    cR := (cp 3).trans S.cR
    cnodes := (cp 4).trans S.cnodes
    cwr := (cp 5).trans S.cwr
    fwr := (World.frozen?_of_block (a := ⟨p, 5, none⟩) hp).trans S.fwr
    fg := fun j => (World.frozen?_of_block (a := ⟨g, j, none⟩) hg).trans (S.fg j)
    cdown := fun i hi => (cg _).trans (S.cdown i hi)
    ckept := fun i k hi hk => (cg _).trans (S.ckept i k hi hk)
    own := fun i k hi hk => own_kept (S.own i k hi hk) fun b hb => h.block b ((S.own i k hi hk).lt b hb).2 (hF b (.inr (.inr ⟨i, k, hi, hk, hb⟩))) }
theorem St.keep (S : St b0 w p g v σ) (E : Ext w w') : St b0 w' p g v σ := S.other (F := fun _ => False) (Only.of_ext E) fun _ _ h => h
theorem St.mono (S : St b0 w p g v σ) {b1 : Nat} (h : b1 ≤ b0) : St b1 w p g v σ :=
  { S with p_lo := Nat.le_trans h S.p_lo, g_lo := Nat.le_trans h S.g_lo, own := fun i k hi hk => row_mono (S.own i k hi hk) h }
theorem St.row (S : St b0 w p g v σ) {i k : Nat} (hi : i < σ.N) (hk : k < 3) : ∃ A c, v i k = .slice A (σ.kept i k).length c ∧ Row w A (σ.kept i k).length 3 (kps (σ.kept i k)) ∧ (σ.kept i k).length ≤ c ∧ c ≤ maxLen ∧ (A = none → (σ.kept i k).length = 0 ∧ c = 0) ∧ (∀ b o, A = some ⟨b, o, none⟩ → b0 ≤ b ∧ b < w.heap.size) := by
  obtain ⟨A, c, h1, h2, h3, h4, h5⟩ := row_of_own (S.own i k hi hk)
  refine ⟨A, c, h1, h2, h3, h4, fun hA => ?_, h5⟩
  subst hA
  rcases (S.own i k hi hk).2 with ⟨h6, h7⟩ | ⟨q, cap, cur, h6, -⟩
  · rw [h1] at h6
    injection h6 with _ _ h6
    exact ⟨h7, h6⟩
  · rw [h1] at h6; injection h6 with h6; cases h6

def upk (f : Nat → Nat → Value) (i k : Nat) (x : Value) : Nat → Nat → Value := fun a b => if a = i ∧ b = k then x else f a b
theorem upk_same (f : Nat → Nat → Value) (i k : Nat) (x : Value) : upk f i k x i k = x := if_pos ⟨rfl, rfl⟩
theorem upk_ne (f : Nat → Nat → Value) {i k a b : Nat} (x : Value) (h : ¬ (a = i ∧ b = k)) : upk f i k x a b = f a b := if_neg h
def setK (f : Nat → Nat → List (Nat × ByteArray)) (i k : Nat) (l : List (Nat × ByteArray)) : Nat → Nat → List (Nat × ByteArray) := fun a b => if a = i ∧ b = k then l else f a b
theorem setK_same (f : Nat → Nat → List (Nat × ByteArray)) (i k : Nat) (x : List (Nat × ByteArray)) : setK f i k x i k = x := if_pos ⟨rfl, rfl⟩
theorem setK_ne (f : Nat → Nat → List (Nat × ByteArray)) {i k a b : Nat} (x : List (Nat × ByteArray)) (h : ¬ (a = i ∧ b = k)) : setK f i k x a b = f a b := if_neg h
theorem set_cell_g {g o o' : Nat} (u : Value) (h : o' ≠ o) : (w.setCell ⟨g, o, none⟩ u).cell? ⟨g, o', none⟩ = w.cell? ⟨g, o', none⟩ := World.cell?_setCell_other _ _ _ _ (by intro e; injection e with _ e; exact h e.symm)
theorem set_cell_b {g b o o' : Nat} (u : Value) (h : b ≠ g) : (w.setCell ⟨g, o, none⟩ u).cell? ⟨b, o', none⟩ = w.cell? ⟨b, o', none⟩ := World.cell?_setCell_other _ _ _ _ (by intro e; injection e with e; exact h e.symm)
theorem set_heap {g b o : Nat} (u : Value) (h : b ≠ g) : (w.setCell ⟨g, o, none⟩ u).heap[b]? = w.heap[b]? := by
  simp only [World.setCell]
  rw [Array.getElem?_modify, if_neg (fun e => h e.symm)]
/-- One of the kept slices turns, in its own block or into a new one; its header is stored. -/
theorem St.turn (S : St b0 w p g v σ) {i k : Nat} (hi : i < σ.N) (hk : k < 3) {u : Value} {l : List (Nat × ByteArray)} (hown : w'.ownsRow b0 135 3 u l.length (kps l)) (hgr : w.grownBy w' (v i k).ownBlock)
    (hat : u.ownBlock = none ∨ u.ownBlock = (v i k).ownBlock ∨ ∃ q, u.ownBlock = some q ∧ w.heap.size ≤ q) :
    St b0 (w'.setCell ⟨g, i * 4 + 1 + k, none⟩ u) p g (upk v i k u) { σ with kept := setK σ.kept i k l } ∧ Only (foot p g v σ.N) w (w'.setCell ⟨g, i * 4 + 1 + k, none⟩ u) ∧ (∀ x, foot p g (upk v i k u) σ.N x → foot p g v σ.N x ∨ w.heap.size ≤ x) := by
  have hp : w'.heap[p]? = w.heap[p]? := hgr.block p S.p_hi fun e => S.offp i k hi hk e.symm
  have hg : w'.heap[g]? = w.heap[g]? := hgr.block g S.g_hi fun e => S.offg i k hi hk e.symm
  have cp : ∀ j, (w'.setCell ⟨g, i * 4 + 1 + k, none⟩ u).cell? ⟨p, j, none⟩ = w.cell? ⟨p, j, none⟩ := fun j => (set_cell_b u S.pg).trans (World.cell?_of_block (a := ⟨p, j, none⟩) hp)
  have cg : ∀ j, w'.cell? ⟨g, j, none⟩ = w.cell? ⟨g, j, none⟩ := fun j => World.cell?_of_block (a := ⟨g, j, none⟩) hg
  have hup : u.ownBlock ≠ some p := by
    rcases hat with h | h | ⟨q, h, hq⟩
    · rw [h]; simp
    · rw [h]; exact S.offp i k hi hk
    · rw [h]; intro e; injection e with e; have := S.p_hi; omega
  have hug : u.ownBlock ≠ some g := by
    rcases hat with h | h | ⟨q, h, hq⟩
    · rw [h]; simp
    · rw [h]; exact S.offg i k hi hk
    · rw [h]; intro e; injection e with e; have := S.g_hi; omega
  have new : ∀ a b, a < σ.N → b < 3 → ¬ (a = i ∧ b = k) → ∀ x, (v a b).ownBlock = some x → u.ownBlock ≠ some x := fun a b ha hb hne x hx hx' => by
    rcases hat with h | h | ⟨q, h, hq⟩
    · rw [h] at hx'; cases hx'
    · rw [h] at hx'; exact S.apart a b i k ha hb hi hk hne x hx hx'
    · rw [h] at hx'; injection hx' with hx'
      have := ((S.own a b ha hb).lt x hx).2
      omega
  have hs := hgr.size
  refine ⟨?_, ?_, ?_⟩
  · exact {
      p_lo := S.p_lo
      p_hi := by have := S.p_hi; simp; omega
      g_lo := S.g_lo
      g_hi := by have := S.g_hi; simp; omega
      pg := S.pg
      cN := (cp 0).trans S.cN
      cK := (cp 1).trans S.cK
      cW := (cp 2).trans S.cW
      cR := (cp 3).trans S.cR
      cnodes := (cp 4).trans S.cnodes
      cwr := (cp 5).trans S.cwr
      fwr := by rw [World.frozen?_setCell, World.frozen?_of_block (a := ⟨p, 5, none⟩) hp]; exact S.fwr
      fg := fun j => by rw [World.frozen?_setCell, World.frozen?_of_block (a := ⟨g, j, none⟩) hg]; exact S.fg j
      cdown := fun a ha => by rw [set_cell_g u (by omega), cg]; exact S.cdown a ha
      ckept := fun a b ha hb => by
        by_cases c : a = i ∧ b = k
        · obtain ⟨rfl, rfl⟩ := c
          rw [upk_same]
          exact World.cell?_setCell_same' _ _ _ (by rw [cg, S.ckept a b ha hb]; rfl)
        · rw [upk_ne _ _ c, set_cell_g u (by omega), cg]
          exact S.ckept a b ha hb
      own := fun a b ha hb => by
        show World.ownsRow _ _ _ _ _ (setK σ.kept i k l a b).length (kps (setK σ.kept i k l a b))
        by_cases c : a = i ∧ b = k
        · obtain ⟨rfl, rfl⟩ := c
          rw [upk_same, setK_same]
          exact own_kept hown fun x hx => set_heap u (fun e => hug (by rw [hx, e]))
        · rw [upk_ne _ _ c, setK_ne _ _ c]
          refine own_kept (S.own a b ha hb) fun x hx => ?_
          rw [set_heap u (fun e => S.offg a b ha hb (by rw [hx, e]))]
          exact hgr.block x ((S.own a b ha hb).lt x hx).2 fun e => S.apart a b i k ha hb hi hk c x hx e.symm
      offp := fun a b ha hb => by
        by_cases c : a = i ∧ b = k
        · obtain ⟨rfl, rfl⟩ := c; rw [upk_same]; exact hup
        · rw [upk_ne _ _ c]; exact S.offp a b ha hb
      offg := fun a b ha hb => by
        by_cases c : a = i ∧ b = k
        · obtain ⟨rfl, rfl⟩ := c; rw [upk_same]; exact hug
        · rw [upk_ne _ _ c]; exact S.offg a b ha hb
      apart := fun a b a' b' ha hb ha' hb' hne x hx => by
        by_cases c : a = i ∧ b = k
        · obtain ⟨rfl, rfl⟩ := c
          rw [upk_same] at hx
          rw [upk_ne _ _ (fun h => hne ⟨h.1.symm, h.2.symm⟩)]
          exact fun h => new a' b' ha' hb' (fun h => hne ⟨h.1.symm, h.2.symm⟩) x h hx
        · rw [upk_ne _ _ c] at hx
          by_cases d : a' = i ∧ b' = k
          · obtain ⟨rfl, rfl⟩ := d; rw [upk_same]; exact new a b ha hb c x hx
          · rw [upk_ne _ _ d]; exact S.apart a b a' b' ha hb ha' hb' hne x hx }
  · exact (Only.grown (F := foot p g v σ.N) hgr fun x hx => .inr (.inr ⟨i, k, hi, hk, hx⟩)).set (.inl (.inr (.inl rfl))) u
  · rintro x (rfl | rfl | ⟨a, b, ha, hb, hx⟩)
    · exact .inl (.inl rfl)
    · exact .inl (.inr (.inl rfl))
    · by_cases c : a = i ∧ b = k
      · obtain ⟨rfl, rfl⟩ := c
        rw [upk_same] at hx
        rcases hat with h | h | ⟨q, h, hq⟩
        · rw [h] at hx; cases hx
        · rw [h] at hx; exact .inl (.inr (.inr ⟨a, b, ha, hb, hx⟩))
        · rw [h] at hx; injection hx with hx; exact .inr (by omega)
      · rw [upk_ne _ _ c] at hx
        exact .inl (.inr (.inr ⟨a, b, ha, hb, hx⟩))
/-- The number of writes is stored. -/
theorem St.write (S : St b0 w p g v σ) (n : Nat) : St b0 (w.setCell ⟨p, 5, none⟩ (.int .i64 (n : Int))) p g v { σ with wr := n } ∧ Only (foot p g v σ.N) w (w.setCell ⟨p, 5, none⟩ (.int .i64 (n : Int))) := by
  have cg : ∀ j, (w.setCell ⟨p, 5, none⟩ (.int .i64 (n : Int))).cell? ⟨g, j, none⟩ = w.cell? ⟨g, j, none⟩ := fun j => set_cell_b _ (fun e => S.pg e.symm)
  have cp : ∀ j, j ≠ 5 → (w.setCell ⟨p, 5, none⟩ (.int .i64 (n : Int))).cell? ⟨p, j, none⟩ = w.cell? ⟨p, j, none⟩ := fun j hj => set_cell_g _ hj
  refine ⟨{ S with
    p_hi := by simpa using S.p_hi
    g_hi := by simpa using S.g_hi
    cN := (cp 0 (by omega)).trans S.cN
    cK := (cp 1 (by omega)).trans S.cK
    cW := (cp 2 (by omega)).trans S.cW
    cR := (cp 3 (by omega)).trans S.cR
    cnodes := (cp 4 (by omega)).trans S.cnodes
    cwr := World.cell?_setCell_same' _ _ _ (by rw [S.cwr]; rfl)
    fwr := by rw [World.frozen?_setCell]; exact S.fwr
    fg := fun j => by rw [World.frozen?_setCell]; exact S.fg j
    cdown := fun i hi => (cg _).trans (S.cdown i hi)
    ckept := fun i k hi hk => (cg _).trans (S.ckept i k hi hk)
    own := fun i k hi hk => own_kept (S.own i k hi hk) fun x hx => set_heap _ (fun e => S.offp i k hi hk (by rw [hx, e])) }, ?_⟩
  exact (Only.refl (F := foot p g v σ.N)).set (.inl (.inl rfl)) _
/-- A node falls, or comes up. -/
theorem St.flag (S : St b0 w p g v σ) {i : Nat} (hi : i < σ.N) (d : Bool) : St b0 (w.setCell ⟨g, i * 4, none⟩ (.bool d)) p g v { σ with down := fun j => if j = i then d else σ.down j } ∧ Only (foot p g v σ.N) w (w.setCell ⟨g, i * 4, none⟩ (.bool d)) := by
  have cp : ∀ j, (w.setCell ⟨g, i * 4, none⟩ (.bool d)).cell? ⟨p, j, none⟩ = w.cell? ⟨p, j, none⟩ := fun j => set_cell_b _ S.pg
  refine ⟨{ S with
    p_hi := by simpa using S.p_hi
    g_hi := by simpa using S.g_hi
    cN := (cp 0).trans S.cN
    cK := (cp 1).trans S.cK
    cW := (cp 2).trans S.cW
    cR := (cp 3).trans S.cR
    cnodes := (cp 4).trans S.cnodes
    cwr := (cp 5).trans S.cwr
    fwr := by rw [World.frozen?_setCell]; exact S.fwr
    fg := fun j => by rw [World.frozen?_setCell]; exact S.fg j
    cdown := fun j hj => by
      show _ = some (Value.bool (if j = i then d else σ.down j))
      by_cases c : j = i
      · subst c
        rw [if_pos rfl]
        exact World.cell?_setCell_same' _ _ _ (by rw [S.cdown j hj]; rfl)
      · rw [if_neg c, set_cell_g _ (by omega)]
        exact S.cdown j hj
    ckept := fun j k hj hk => by rw [set_cell_g _ (by omega)]; exact S.ckept j k hj hk
    own := fun j k hj hk => own_kept (S.own j k hj hk) fun x hx => set_heap _ (fun e => S.offg j k hj hk (by rw [hx, e])) }, ?_⟩
  exact (Only.refl (F := foot p g v σ.N)).set (.inl (.inr (.inl rfl))) _
end
end Go.Proofs.YtpenkbhljkmliaaGreatDoor

/-
  The contract of (*Store).up.
-/
set_option linter.unusedVariables false
set_option linter.unusedSimpArgs false
namespace Go.Proofs.YtpenkbhljkmliaaGreatDoor
open Go.RowKit Go.BigFrame

theorem intU : EInfo Tryz.prog 61 3 (.int .i64 0) 1 8 := EInfo.mk_ Tryz.underlying61 (by kernel_rfl) rfl (by omega)
/-- The nodes that are up, of the first x. -/
def Sto.upsTo (σ : Sto) (x : Nat) : List Nat := (List.range x).filter fun i => !σ.down i
theorem Sto.upsTo_all (σ : Sto) : σ.upsTo σ.N = σ.ups := rfl
theorem Sto.upsTo_le (σ : Sto) (x : Nat) : (σ.upsTo x).length ≤ x := by
  have := List.length_filter_le (fun i => !σ.down i) (List.range x)
  simpa [Sto.upsTo] using this
theorem Sto.upsTo_yes (σ : Sto) {x : Nat} (h : σ.down x = false) : σ.upsTo (x + 1) = σ.upsTo x ++ [x] := by
  unfold Sto.upsTo
  rw [List.range_succ, List.filter_append]
  simp [h]
theorem Sto.upsTo_no (σ : Sto) {x : Nat} (h : σ.down x = true) : σ.upsTo (x + 1) = σ.upsTo x := by
  unfold Sto.upsTo
  rw [List.range_succ, List.filter_append]
  simp [h]

set_option maxRecDepth 100000 in
set_option maxHeartbeats 2000000 in
theorem up_ok {b0 p g : Nat} {w : World} {v : Nat → Nat → Value} {σ : Sto} (S : St b0 w p g v σ) (hN : σ.N ≤ 10) :
    Calls Tryz.prog 85 #[.pointer (some ⟨p, 0, none⟩)] w fun e w' => (∃ u, e = .returned u ∧ w'.ownsRow w.heap.size 3 1 u σ.ups.length (nats .i64 σ.ups)) ∧ Ext w w' := by
  have HS := hide S
  have c4 := S.cnodes
  clear S
  obtain ⟨N, hN'⟩ : ∃ N, N = σ.N := ⟨_, rfl⟩
  rw [← hN'] at c4 hN
  have HN := hide hN'
  clear hN'
  go_enter Tryz.func85, Tryz.ntmps85
  go_wp2
  go_loopw [3, 11] (fun u i wr => ∃ x : Nat, x ≤ N ∧ i = .int .i64 x ∧ Hid (wr.ownsRow w.heap.size 3 1 u (σ.upsTo x).length (nats .i64 (σ.upsTo x))) ∧ Ext w wr) (fun _ i _ => N - (intOf i).toNat)
  case atStart => exact ⟨0, Nat.zero_le _, rfl, hide (World.ownsRow_nil _ _ _ _), Ext.refl w⟩
  case round =>
    obtain ⟨x, hx, rfl, HOW, hext⟩ := hrel
    by_cases hlt : x < N
    · have hxN : x < σ.N := by rw [← unhide HN]; exact hlt
      have S1 := (unhide HS).keep hext
      have d0 := S1.cdown x hxN
      have d1 := S1.ckept x 0 hxN (by omega)
      have d2 := S1.ckept x 1 hxN (by omega)
      have d3 := S1.ckept x 2 hxN (by omega)
      obtain ⟨A0, k0, e0, -⟩ := S1.row (k := 0) hxN (by omega)
      obtain ⟨A1, k1, e1, -⟩ := S1.row (k := 1) hxN (by omega)
      obtain ⟨A2, k2, e2, -⟩ := S1.row (k := 2) hxN (by omega)
      rw [e0] at d1
      rw [e1] at d2
      rw [e2] at d3
      clear S1 e0 e1 e2
      generalize (σ.kept x 0).length = n0 at *
      generalize (σ.kept x 1).length = n1 at *
      generalize (σ.kept x 2).length = n2 at *
      have hxI : (x : Int) < (N : Int) := by omega
      obtain ⟨q, hq⟩ : ∃ q, q = σ.down x := ⟨_, rfl⟩
      rw [← hq] at d0
      have HQ := hide hq
      clear hq
      have hbd : ((σ.upsTo x).length + 1) * 8 ≤ 140737488355328 ∧ (σ.upsTo x).length + 1 ≤ 9223372036854775807 := by have := σ.upsTo_le x; omega
      cases q with
      | true =>
        go_wp2
        go_roundw
        case rel => exact ⟨x + 1, by omega, by go_num, hide (by rw [Sto.upsTo_no σ (unhide HQ).symm]; exact row_ext (unhide HOW) ((Ext.refl _).alloc _)), hext.alloc _⟩
        case measure => simp [intOf]; omega
      | false =>
        have hext2 := hext.alloc (.cells #[.bool false, .slice A0 n0 k0, .slice A1 n1 k1, .slice A2 n2 k2] 139)
        go_wp2_with (at_builtin; refine stop ?_)
        unfold Stop
        refine wpList_app (w := wr.alloc (.cells #[.bool false, .slice A0 n0 k0, .slice A1 n1 k1, .slice A2 n2 k2] 139)) (cs := #[.int .i64 (x : Int)]) rfl _ _ 61 (by rfl) 3 intU hext2 _ _ _ (by rfl) (row_ext (unhide HOW) ((Ext.refl _).alloc _)) 1 1 (by show Value.slice (some ⟨wr.heap.size + 1, 0, none⟩) 1 1 = _; simp) rfl rfl hbd ?_
        intro v' w2 hown' hext' _
        have hown2 : Hid (w2.ownsRow w.heap.size 3 1 v' (σ.upsTo (x + 1)).length (nats .i64 (σ.upsTo (x + 1)))) := hide (by
          rw [Sto.upsTo_yes σ (unhide HQ).symm, ← nats_append, List.length_append]
          exact hown')
        clear hown' hext2
        go_wp2
        go_roundw
        case rel => exact ⟨x + 1, by omega, by go_num, hown2, hext'⟩
        case measure => simp [intOf]; omega
    · obtain rfl : N = x := by omega
      have HOW2 := hide (by have := unhide HOW; rw [unhide HN, Sto.upsTo_all] at this; exact this)
      go_wp2
      go_ret
      exact ⟨⟨_, rfl, unhide HOW2⟩, hext⟩
end Go.Proofs.YtpenkbhljkmliaaGreatDoor
