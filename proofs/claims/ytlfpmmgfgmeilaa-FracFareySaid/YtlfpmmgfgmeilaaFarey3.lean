/-
  The contract of frac.Farey.
-/
import Derived.Test.YtlfpmmgfgmeilaaFarey2
set_option linter.unusedVariables false
set_option linter.unusedSimpArgs false
namespace Go.Proofs.Ytlfpmmgfgmeilaa
open Go.RowKit Go.BigFrame Go.Sort Go.Lib

theorem far_grown {w : World} {g m : Nat} {os : Array Obj} (dk : Array Wm.Fr) : w.grownBy (sortWorldK encF 2 w g 0 m dk os) (some g) := by
  refine ⟨rfl, rfl, rfl, by simp [sortWorldK, putRowK], fun k hk hne => ?_⟩
  unfold sortWorldK putRowK
  rw [heap_grow_old _ _ (by simpa using hk)]
  have : g ≠ k := fun e => hne (by rw [e])
  simp [putRow, mapBlock, Sort.ahead, Array.getElem?_modify, this]
theorem sort_far {base n L cap g : Nat} (h1 : 1 ≤ n) (h30 : n ≤ 30) (hL : L = (Wm.rawF n).length) (w : World) (own : w.ownsRow base 28 2 (.slice (some ⟨g, 0, none⟩) L cap) L (prs (castF (Wm.rawF n)))) :
    Calls Try.prog 9 #[.slice (some ⟨g, 0, none⟩) L cap, .func (.func 10) #[] #[]] w fun e w' =>
      e = .returned (.tuple #[]) ∧ Row w' (some ⟨g, 0, none⟩) L 2 (prs (castF (Wm.srtF n))) ∧ w.grownBy w' (some g) := by
  obtain ⟨d, hd⟩ : ∃ d : Array Wm.Fr, d = ((Wm.rawF n).map Wm.toF).toArray := ⟨_, rfl⟩
  have hdl : d.toList = (Wm.rawF n).map Wm.toF := by rw [hd]
  have hds : d.size = L := by rw [← Array.length_toList, hdl, List.length_map, hL]
  have hbd := (Wm.okF h1 h30).bound
  have hgw : g < w.heap.size := (own.lt g rfl).2
  have hH : HoldsK encF 2 w g 0 d := by
    intro j hj
    rw [size_flatK, hds] at hj
    refine ⟨?_, ?_⟩
    · rw [Nat.zero_add, own.cellAt j hj]
      exact (flat_get hbd hdl (by omega)).symm
    · rcases own.2 with ⟨h, -⟩ | ⟨q, cp, cur, h, -, hh, -⟩
      · cases h
      · injection h with h
        simp only [Option.some.injEq, Addr.mk.injEq, and_true] at h
        subst h
        simp [World.frozen?, hh]
  have hcmp : CmpLays Try.prog 10 #[] encF 2 Wm.cfF g 0 d.size w := by
    intro m os dk hs x y
    exact cmp_any x.1.val (x.2.val + 1) y.1.val (y.2.val + 1) (by omega) (by omega) (by omega) (by omega) _
  have hlen : L < 4611686018427387904 := by
    have := (Wm.okF h1 h30).len
    have hp := (Wm.srtF_perm n).length_eq
    rcases own.2 with ⟨h, -⟩ | ⟨q, cp, cur, h, -, hh, -, hcm, r, -⟩
    · cases h
    · have : (Wm.rawF n).length ≤ 1200 := by
        have h := (Wm.raw_len n).resolve_right (by omega)
        have : n * 40 ≤ 30 * 40 := Nat.mul_le_mul_right 40 h30
        omega
      omega
  have C := Try.slices_SortFunc 2 Try.isAgg28 Try.sizeOf28 encF (fun x => rfl) (fun x v hv => by
    simp only [encF, List.mem_cons, List.not_mem_nil, or_false] at hv
    rcases hv with rfl | rfl <;> rfl) Wm.cfF Wm.swoF 10 #[] g 0 cap d w (fun args w => rfl) hcmp hH hgw (by omega)
  rw [hds] at C
  refine C.mono ?_
  rintro e w' ⟨rfl, d', m, os, hperm, hsort, rfl⟩
  have hsz : d'.size = L := hperm.1.trans hds
  have hp : d'.toList.Perm ((Wm.rawF n).map Wm.toF) := by
    have := hperm.2.2
    rw [← hds] at this
    rw [← hdl]
    have e1 : d.extract 0 d.size = d := by simp
    have e2 : d'.extract 0 d.size = d' := by rw [hds, ← hsz]; simp
    rw [e1, e2] at this
    exact this
  have hs : d'.toList.Pairwise fun a b => ltOf Wm.cfF b a = false := by
    rw [List.pairwise_iff_getElem]
    intro i j hi hj hij
    have := hsort i j (Nat.zero_le _) hij (by simpa [hsz] using hj)
    rw [getElem!_pos d' j (by simpa using hj), getElem!_pos d' i (by simpa using hi)] at this
    simpa using this
  have hfin := Wm.far_sorted h1 h30 hp hs
  have hK := holdsK_sortWorldK_c encF 2 w g 0 d d' m os hH hgw (by rw [hsz, hds])
  have hlS : (Wm.srtF n).length = L := by rw [hL]; exact (Wm.srtF_perm n).length_eq
  refine ⟨rfl, ⟨by rw [prs_length, castF_length, hlS], fun _ => ⟨g, 0, rfl, Nat.lt_of_lt_of_le hgw (size_sortWorldK_c encF 2 w g 0 m d' os), fun j hj => ?_⟩⟩, far_grown d'⟩
  have := (hK j (by rw [size_flatK, hsz]; exact hj)).1
  rw [this]
  exact flat_get (fun x hx => hbd x ((Wm.srtF_perm n).mem_iff.1 hx)) hfin (by rw [hlS]; exact hj)
end Go.Proofs.Ytlfpmmgfgmeilaa
