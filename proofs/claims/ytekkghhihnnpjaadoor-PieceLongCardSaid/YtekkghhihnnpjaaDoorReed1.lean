/-
  Plain: what the laws of reed say of the code rows. No program in sight.
-/
import Derived.Test.YtekkghhihnnpjaaDoorReed0
set_option linter.unusedVariables false
set_option linter.unusedSimpArgs false
namespace Wm
/-- The row of n bytes that has the bytes bs at the places l. -/
def rowL (l bs : List Nat) (n : Nat) : List Nat := (List.range n).map (rby (fun i => l.getD i 0) (fun i => bs.getD i 0) l.length)
def putL (d : List Nat) (n : Nat) : List Nat := rowL (List.range d.length) d n
def B256 (l : List Nat) : Prop := ∀ i, l.getD i 0 < 256
theorem B256.of {l : List Nat} (h : ∀ x ∈ l, x < 256) : B256 l := fun i => by
  rw [List.getD_eq_getElem?_getD]
  cases e : l[i]? with
  | none => show 0 < 256; omega
  | some x => exact h x (List.mem_of_getElem? e)
theorem B256.mem {l : List Nat} (h : B256 l) : ∀ x ∈ l, x < 256 := fun x hx => by
  obtain ⟨i, hi, rfl⟩ := List.getElem_of_mem hx
  have := h i
  rwa [List.getD_eq_getElem?_getD, List.getElem?_eq_getElem hi] at this
theorem getD_range {n i : Nat} (h : i < n) : (List.range n).getD i 0 = i := by
  rw [List.getD_eq_getElem?_getD, List.getElem?_eq_getElem (by simpa using h)]; simp
theorem B256.range {n : Nat} (h : n ≤ 256) : B256 (List.range n) := B256.of fun x hx => by have := List.mem_range.1 hx; omega
theorem getD_map_ {α : Type} {l : List α} {f : α → Nat} {i : Nat} (a : α) (h : i < l.length) : (l.map f).getD i 0 = f (l.getD i a) := by
  simp [List.getD_eq_getElem?_getD, List.getElem?_eq_getElem h]
theorem rowL_length (l bs : List Nat) (n : Nat) : (rowL l bs n).length = n := by simp [rowL]
theorem rowL_get {l bs : List Nat} {n x : Nat} (h : x < n) : (rowL l bs n).getD x 0 = rby (fun i => l.getD i 0) (fun i => bs.getD i 0) l.length x := by
  unfold rowL
  rw [getD_map_ 0 (by simpa using h), getD_range h]
theorem rowL_lt {l bs : List Nat} {n : Nat} (hl : B256 l) (hb : B256 bs) (hn : n ≤ 256) : B256 (rowL l bs n) := B256.of fun y hy => by
  obtain ⟨x, hx, rfl⟩ := List.mem_map.1 hy
  exact rby_lt hl hb (by have := List.mem_range.1 hx; omega)
theorem putL_length (d : List Nat) (n : Nat) : (putL d n).length = n := rowL_length ..
theorem putL_get {d : List Nat} {n x : Nat} (h : x < n) : (putL d n).getD x 0 = rby (fun i => (List.range d.length).getD i 0) (fun i => d.getD i 0) d.length x := by
  unfold putL; rw [rowL_get h, List.length_range]
theorem getD_inj {l : List Nat} (h : l.Nodup) {i j : Nat} (hi : i < l.length) (hj : j < l.length) (e : l.getD i 0 = l.getD j 0) : i = j := by
  rw [List.getD_eq_getElem?_getD, List.getD_eq_getElem?_getD, List.getElem?_eq_getElem hi, List.getElem?_eq_getElem hj] at e
  exact (List.getElem_inj h).1 e
theorem list_ext_getD {l m : List Nat} (h : l.length = m.length) (hg : ∀ i, i < l.length → l.getD i 0 = m.getD i 0) : l = m := by
  apply List.ext_getElem h
  intro i h1 h2
  have := hg i h1
  rwa [List.getD_eq_getElem?_getD, List.getD_eq_getElem?_getD, List.getElem?_eq_getElem h1, List.getElem?_eq_getElem h2] at this
/-- The first bytes of a row are the data. -/
theorem putL_data {d : List Nat} {n i : Nat} (hd : B256 d) (hn : n ≤ 256) (hk : d.length ≤ n) (hi : i < d.length) : (putL d n).getD i 0 = d.getD i 0 := by
  rw [putL_get (by omega)]
  have := rby_at (p := fun i => (List.range d.length).getD i 0) (b := fun i => d.getD i 0) (n := d.length) (B256.range (by omega)) hd (fun i j hi hj e => by rwa [getD_range hi, getD_range hj] at e) hi
  rwa [getD_range hi] at this
theorem putL_take {d : List Nat} {n : Nat} (hd : B256 d) (hn : n ≤ 256) (hk : d.length ≤ n) : (putL d n).take d.length = d := by
  apply list_ext_getD (by rw [List.length_take, putL_length]; omega)
  intro i hi
  rw [List.length_take, putL_length] at hi
  have e : ((putL d n).take d.length).getD i 0 = (putL d n).getD i 0 := by
    rw [List.getD_eq_getElem?_getD, List.getElem?_take_of_lt (by omega), ← List.getD_eq_getElem?_getD]
  rw [e, putL_data hd hn hk (by omega)]
/-- Any so many bytes of a row make all. -/
theorem mend_row {d l bs : List Nat} {n : Nat} (hd : B256 d) (hn : n ≤ 256) (hl : l.Nodup) (hln : ∀ x ∈ l, x < n) (hk : l.length = d.length) (hkn : d.length ≤ n) (hb : B256 bs) (hbs : ∀ i, i < l.length → bs.getD i 0 = (putL d n).getD (l.getD i 0) 0) : rowL l bs n = putL d n := by
  apply list_ext_getD (by rw [rowL_length, putL_length])
  intro x hx
  rw [rowL_length] at hx
  have hl2 : B256 l := B256.of fun x hx => by have := hln x hx; omega
  have hdm : ∀ i, i < l.length → l.getD i 0 < n := fun i hi => by
    rw [List.getD_eq_getElem?_getD, List.getElem?_eq_getElem hi]
    exact hln _ (List.getElem_mem hi)
  rw [rowL_get hx, putL_get hx, ← hk]
  refine rby_unique hl2 hb (B256.range (by omega)) hd (u := fun i => l.getD i 0) (fun i _ => hl2 i) (fun i j hi hj e => getD_inj hl hi hj e) (fun i hi => ?_) (by omega)
  rw [rby_at hl2 hb (fun i j hi hj e => getD_inj hl hi hj e) hi, hbs i hi, putL_get (hdm i hi), hk]
/-- Two rows that agree in so many places have the same data. -/
theorem rows_agree {d e u : List Nat} {n : Nat} (hd : B256 d) (he : B256 e) (hn : n ≤ 256) (hk : d.length ≤ n) (hde : d.length = e.length) (hu : u.Nodup) (hul : d.length ≤ u.length) (h : ∀ x ∈ u, x < n ∧ (putL d n).getD x 0 = (putL e n).getD x 0) : d = e := by
  apply list_ext_getD hde
  intro i hi
  have key : (putL d n).getD i 0 = (putL e n).getD i 0 := by
    rw [putL_get (by omega), putL_get (by omega), ← hde]
    have hm : ∀ i, i < d.length → u.getD i 0 ∈ u := fun i hi => by
      rw [List.getD_eq_getElem?_getD, List.getElem?_eq_getElem (by omega)]
      exact List.getElem_mem _
    refine rby_unique (B256.range (by omega)) hd (B256.range (by omega)) he (u := fun i => u.getD i 0) (fun i hi => by have := (h _ (hm i hi)).1; omega) (fun i j hi hj e => getD_inj hu (by omega) (by omega) e) (fun i hi => ?_) (by omega)
    obtain ⟨h1, h2⟩ := h _ (hm i hi)
    rw [putL_get h1, putL_get h1, ← hde] at h2
    exact h2
  rwa [putL_data hd hn hk hi, putL_data he hn (by omega) (by omega)] at key
/-- How many of the first n. -/
def cntR (f : Nat → Bool) : Nat → Nat
  | 0 => 0
  | n + 1 => cntR f n + (f n).toNat
def pk (f : Nat → Bool) : Nat → List Nat
  | 0 => []
  | n + 1 => if f n then pk f n ++ [n] else pk f n
theorem pk_length (f : Nat → Bool) : ∀ n, (pk f n).length = cntR f n
  | 0 => rfl
  | n + 1 => by
    simp only [pk, cntR]
    cases h : f n <;> simp [pk_length f n]
theorem pk_mem {f : Nat → Bool} {x : Nat} : ∀ n, x ∈ pk f n → x < n ∧ f x = true
  | 0, h => by simp [pk] at h
  | n + 1, h => by
    simp only [pk] at h
    split at h
    · rename_i hf
      rcases List.mem_append.1 h with h | h
      · have := pk_mem n h; exact ⟨by omega, this.2⟩
      · have : x = n := by simpa using h
        subst this; exact ⟨by omega, hf⟩
    · have := pk_mem n h; exact ⟨by omega, this.2⟩
theorem pk_nodup (f : Nat → Bool) : ∀ n, (pk f n).Nodup
  | 0 => by simp [pk]
  | n + 1 => by
    simp only [pk]
    split
    · refine List.nodup_append.2 ⟨pk_nodup f n, by simp, fun a ha b hb e => ?_⟩
      have := (pk_mem n ha).1
      have : b = n := by simpa using hb
      omega
    · exact pk_nodup f n
theorem cntR_not (f : Nat → Bool) : ∀ n, cntR f n + cntR (fun i => !f i) n = n
  | 0 => rfl
  | n + 1 => by
    have := cntR_not f n
    simp only [cntR]
    cases f n <;> simp <;> omega
theorem cntR_le (f : Nat → Bool) (n : Nat) : cntR f n ≤ n := by have := cntR_not f n; omega
/-- Singleton. -/
theorem far {d e : List Nat} {n : Nat} (hd : B256 d) (he : B256 e) (hn : n ≤ 256) (hk : d.length ≤ n) (hde : d.length = e.length) (hne : d ≠ e) : n + 1 ≤ cntR (fun i => decide ((putL d n).getD i 0 ≠ (putL e n).getD i 0)) n + d.length := by
  have h1 := cntR_not (fun i => decide ((putL d n).getD i 0 = (putL e n).getD i 0)) n
  have h2 : ¬ d.length ≤ cntR (fun i => decide ((putL d n).getD i 0 = (putL e n).getD i 0)) n := fun h => by
    rw [← pk_length] at h
    exact hne (rows_agree hd he hn hk hde (pk_nodup _ n) h fun x hx => by
      have := pk_mem n hx
      exact ⟨this.1, of_decide_eq_true this.2⟩)
  have h3 : (fun i => !decide ((putL d n).getD i 0 = (putL e n).getD i 0)) = fun i => decide ((putL d n).getD i 0 ≠ (putL e n).getD i 0) := by
    funext i; simp
  rw [h3] at h1
  omega
/-- One wrong byte is told. -/
theorem wrong {d : List Nat} {n a y : Nat} (hd : B256 d) (hn : n ≤ 256) (hk : d.length < n) (ha : a < n) (hy : y < 256) (hne : y ≠ (putL d n).getD a 0) :
    ∃ i, i < n ∧ ((putL d n).set a y).getD i 0 ≠ (putL (((putL d n).set a y).take d.length) n).getD i 0 := by
  obtain ⟨c, hc⟩ : ∃ c, c = (putL d n).set a y := ⟨_, rfl⟩
  rw [← hc]
  have hcl : c.length = n := by rw [hc, List.length_set, putL_length]
  have hcg : ∀ i, i < n → c.getD i 0 = if a = i then y else (putL d n).getD i 0 := fun i hi => by
    rw [hc, List.getD_eq_getElem?_getD, List.getElem?_set]
    split
    · rw [if_pos (by rw [putL_length]; exact ha)]; rfl
    · rw [List.getD_eq_getElem?_getD]
  have hcb : B256 c := B256.of fun x hx => by
    rw [hc] at hx
    rcases List.mem_or_eq_of_mem_set hx with h | h
    · exact (rowL_lt (B256.range (by omega)) hd hn).mem x h
    · omega
  refine Classical.byContradiction fun hno => ?_
  have hall : ∀ i, i < n → c.getD i 0 = (putL (c.take d.length) n).getD i 0 := fun i hi => Classical.byContradiction fun h => hno ⟨i, hi, h⟩
  have htl : (c.take d.length).length = d.length := by rw [List.length_take]; omega
  have htb : B256 (c.take d.length) := B256.of fun x hx => hcb.mem x (List.mem_of_mem_take hx)
  have hcn : cntR (fun i => decide (i ≠ a)) n = n - 1 := by
    have h1 := cntR_not (fun i => decide (i ≠ a)) n
    have h2 : ∀ m, cntR (fun i => !decide (i ≠ a)) m = if a < m then 1 else 0 := fun m => by
      induction m with
      | zero => rfl
      | succ m ih =>
        simp only [cntR]
        rw [ih]
        by_cases e : m = a
        · subst e; simp
        · simp [e]; split <;> split <;> omega
    rw [h2, if_pos ha] at h1
    omega
  have := rows_agree htb hd hn (by omega) htl (pk_nodup (fun i => decide (i ≠ a)) n) (by rw [pk_length, hcn]; omega) fun x hx => by
    have hx := pk_mem n hx
    refine ⟨hx.1, ?_⟩
    rw [← hall x hx.1, hcg x hx.1, if_neg fun e => of_decide_eq_true hx.2 e.symm]
  have h1 := hall a ha
  rw [this, hcg a ha, if_pos rfl] at h1
  exact hne h1
end Wm
