import Derived.Lib.ItoaNum
import Derived.Test.YtpenkbhljkmliaaGreatDoorSto3
import Derived.Lib.Atoi
import Derived.Lib.FieldsP
import Derived.Test.YtpenkbhljkmliaaGreatDoorHamming0
import Derived.Lib.SlTrimSet
/-
  Plain: the texts of which the desk's answers are made.
-/
set_option linter.unusedVariables false
set_option linter.unusedSimpArgs false
namespace Go.Proofs.YtpenkbhljkmliaaGreatDoor

/-! ### Answers -/
def itoaB (n : Int) : ByteArray := ⟨(Lib.itoa n).toArray⟩
def blank : ByteArray := ⟨#[32]⟩
def okB_ : ByteArray := ⟨#[111, 107]⟩
/-- 'error N' -/
def errB (e : Int) : ByteArray := ⟨#[101, 114, 114, 111, 114, 32]⟩ ++ itoaB e
def numsB : List Int → ByteArray
  | l => (l.foldl (fun s n => s ++ (itoaB n ++ blank)) ByteArray.empty) ++ ⟨#[46]⟩
end Go.Proofs.YtpenkbhljkmliaaGreatDoor

/-
  Plain: what the desk answers to a line, as a function of the store. No program in sight.
-/
set_option linter.unusedVariables false
set_option linter.unusedSimpArgs false
namespace Go.Proofs.YtpenkbhljkmliaaGreatDoor

/-! ### The words of a line -/
def digB (s : ByteArray) : Bool := s.data.toList.all fun b => decide (48 ≤ b.toNat) && decide (b.toNat ≤ 57)
/-- A number: one to seven digits; else the error of syntax is thrown. -/
def numT (s : ByteArray) : Except Int Nat := if s.size < 1 ∨ 7 < s.size ∨ digB s = false then .error 12 else .ok ((Lib.atoi s.data.toList).getD 0).toNat
/-- The words by a form (true: a word, false: a number). -/
def formGo : List ByteArray → List Bool → List Nat → ByteArray → Except Int (List Nat × ByteArray)
  | w :: ws, true :: fs, ns, _ => formGo ws fs ns w
  | w :: ws, false :: fs, ns, x => match numT w with
    | .error e => .error e
    | .ok n => formGo ws fs (ns ++ [n]) x
  | _, _, ns, x => .ok (ns, x)
def formT (ws : List ByteArray) (f : List Bool) : Except Int (List Nat × ByteArray) := if ws.length ≠ f.length then .error 12 else formGo ws f [] ByteArray.empty
theorem formGo_len : ∀ (ws : List ByteArray) (f : List Bool) (ns : List Nat) (x : ByteArray) (r : List Nat × ByteArray), ws.length = f.length → formGo ws f ns x = .ok r → r.1.length = ns.length + (f.filter fun b => !b).length
  | [], [], ns, x, r, _, h => by
    simp only [formGo, Except.ok.injEq] at h
    subst h; simp
  | w :: ws, true :: fs, ns, x, r, hl, h => by
    simp only [formGo] at h
    have := formGo_len ws fs ns w r (by simpa using hl) h
    simpa using this
  | w :: ws, false :: fs, ns, x, r, hl, h => by
    simp only [formGo] at h
    cases hn : numT w with
    | error e => rw [hn] at h; cases h
    | ok n =>
      rw [hn] at h
      have := formGo_len ws fs (ns ++ [n]) x r (by simpa using hl) h
      simp at this ⊢
      omega
  | [], _ :: _, _, _, _, hl, _ => by simp at hl
  | _ :: _, [], _, _, _, hl, _ => by simp at hl

/-! ### Answers -/
/-- What a deed of the store answers. -/
def ansT (r : Ans × Sto) (f : Ans → ByteArray) : Except Int ByteArray × Sto := (if r.1.err = 0 then .ok (f r.1) else .error r.1.err, r.2)
/-- A form, and what is made of it. -/
def withT (σ : Sto) (f : Except Int (List Nat × ByteArray)) (k : List Nat → ByteArray → Except Int ByteArray × Sto) : Except Int ByteArray × Sto := match f with
  | .error e => (.error e, σ)
  | .ok (ns, x) => k ns x
def cPut : ByteArray := ⟨#[112, 117, 116]⟩
def cTorn : ByteArray := ⟨#[116, 111, 114, 110]⟩
def cGet : ByteArray := ⟨#[103, 101, 116]⟩
def cScrub : ByteArray := ⟨#[115, 99, 114, 117, 98]⟩
def cDown : ByteArray := ⟨#[100, 111, 119, 110]⟩
def cUp : ByteArray := ⟨#[117, 112]⟩
def cLose : ByteArray := ⟨#[108, 111, 115, 101]⟩
def cRot : ByteArray := ⟨#[114, 111, 116]⟩
def cNew : ByteArray := ⟨#[110, 101, 119]⟩
/-- The commands of the store; none: it is none of them. -/
def storedT (qe : Int → Int → Int → Int → Int) (σ : Sto) (cmd : ByteArray) (ws : List ByteArray) : Option (Except Int ByteArray × Sto) :=
  if cmd = cPut then some (withT σ (formT ws [false, true]) fun ns x => ansT (σ.doS 1 (ns.getD 0 0 : Nat) 0 x) fun a => itoaB a.at_)
  else if cmd = cTorn then some (withT σ (formT ws [false, false, true]) fun ns x => ansT (σ.doS 2 (ns.getD 0 0 : Nat) (ns.getD 1 0 : Nat) x) fun a => itoaB a.at_)
  else if cmd = cGet then some (withT σ (formT ws [false]) fun ns _ => ansT (σ.doS 3 (ns.getD 0 0 : Nat) 0 ByteArray.empty) fun a => itoaB a.at_ ++ blank ++ a.text)
  else if cmd = cScrub then some (withT σ (formT ws [false]) fun ns _ => ansT (σ.doS 8 (ns.getD 0 0 : Nat) 0 ByteArray.empty) fun a => itoaB a.many)
  else if cmd = cDown then some (withT σ (formT ws [false]) fun ns _ => ansT (σ.doS 4 0 (ns.getD 0 0 : Nat) ByteArray.empty) fun _ => okB_)
  else if cmd = cUp then some (withT σ (formT ws [false]) fun ns _ => ansT (σ.doS 5 0 (ns.getD 0 0 : Nat) ByteArray.empty) fun _ => okB_)
  else if cmd = cLose then some (withT σ (formT ws [false]) fun ns _ => ansT (σ.doS 6 0 (ns.getD 0 0 : Nat) ByteArray.empty) fun _ => okB_)
  else if cmd = cRot then some (withT σ (formT ws [false, false]) fun ns _ => ansT (σ.doS 7 (ns.getD 1 0 : Nat) (ns.getD 0 0 : Nat) ByteArray.empty) fun _ => okB_)
  else if cmd = cNew then some (withT σ (formT ws [false, false, false, false]) fun ns _ =>
    if qe (ns.getD 0 0 : Nat) (ns.getD 1 0 : Nat) (ns.getD 2 0 : Nat) (ns.getD 3 0 : Nat) = 0 then (.ok okB_, Sto.new (ns.getD 0 0) (ns.getD 1 0) (ns.getD 2 0) (ns.getD 3 0)) else (.error (qe (ns.getD 0 0 : Nat) (ns.getD 1 0 : Nat) (ns.getD 2 0 : Nat) (ns.getD 3 0 : Nat)), σ))
  else none
/-- A line: its words are parted by blanks. 'comp' is what the commands that compute answer. -/
def lineT (qe : Int → Int → Int → Int → Int) (comp : ByteArray → List ByteArray → Except Int ByteArray) (σ : Sto) (s : ByteArray) : ByteArray × Sto :=
  match Lib.goFieldsP (fun c => c == 32) s with
  | [] => (errB 12, σ)
  | cmd :: ws =>
    let r := (storedT qe σ cmd ws).getD (comp cmd ws, σ)
    (match r.1 with | .ok b => b | .error e => errB e, r.2)
/-- A script's lines, one after the other; those that are empty are passed over. -/
def runT (qe : Int → Int → Int → Int → Int) (comp : ByteArray → List ByteArray → Except Int ByteArray) : Sto → List ByteArray → List ByteArray × Sto
  | σ, [] => ([], σ)
  | σ, x :: l => if x = ByteArray.empty then runT qe comp σ l else
    let r := lineT qe comp σ x
    let q := runT qe comp r.2 l
    (r.1 :: q.1, q.2)
theorem runT_append (qe : Int → Int → Int → Int → Int) (comp : ByteArray → List ByteArray → Except Int ByteArray) : ∀ (l m : List ByteArray) (σ : Sto), (runT qe comp σ (l ++ m)).1 = (runT qe comp σ l).1 ++ (runT qe comp (runT qe comp σ l).2 m).1
  | [], _, _ => rfl
  | x :: l, m, σ => by
    simp only [runT, List.cons_append]
    split
    · exact runT_append qe comp l m σ
    · simp only [List.cons_append, List.cons.injEq, true_and]
      exact runT_append qe comp l m _
end Go.Proofs.YtpenkbhljkmliaaGreatDoor

/-
  Plain: which texts are numbers; what the desk's commands that compute answer. No program in sight.
-/
set_option linter.unusedVariables false
set_option linter.unusedSimpArgs false
namespace Go.Proofs.YtpenkbhljkmliaaGreatDoor

/-! ### Numbers -/
def digs : List UInt8 := [48, 49, 50, 51, 52, 53, 54, 55, 56, 57]
def isD (b : UInt8) : Bool := decide (48 ≤ b.toNat) && decide (b.toNat ≤ 57)
theorem digs_isD (b : UInt8) : digs.contains b = isD b := by
  have h : ∀ n : Fin 256, digs.contains (UInt8.ofNat n.val) = isD (UInt8.ofNat n.val) := by decide +kernel
  have := h ⟨b.toNat, b.toNat_lt⟩
  rwa [UInt8.ofNat_toNat] at this
theorem dropW_nil (p : UInt8 → Bool) : ∀ l : List UInt8, l.dropWhile p = [] ↔ l.all p = true
  | [] => by simp
  | b :: l => by
    rw [List.dropWhile_cons, List.all_cons]
    by_cases h : p b = true
    · rw [if_pos h, h, Bool.true_and]; exact dropW_nil p l
    · rw [if_neg h]
      have : p b = false := by simpa using h
      rw [this, Bool.false_and]
      simp
theorem dropW_all (p : UInt8 → Bool) (l : List UInt8) (h : (l.dropWhile p).all p = true) : l.all p = true := by
  induction l with
  | nil => rfl
  | cons b l ih =>
    rw [List.dropWhile_cons] at h
    rw [List.all_cons]
    by_cases hb : p b = true
    · rw [if_pos hb] at h
      rw [hb, Bool.true_and]; exact ih h
    · rw [if_neg hb, List.all_cons] at h
      exact h
theorem trim_dig (l : List UInt8) : Lib.trimS l digs = [] ↔ l.all isD = true := by
  have e : (fun b => digs.contains b) = isD := funext digs_isD
  unfold Lib.trimS Lib.trimLeftS Lib.trimRightS
  rw [e, dropW_nil, List.all_reverse]
  refine ⟨fun h => ?_, fun h => ?_⟩
  · rw [← List.all_reverse]; exact dropW_all _ _ h
  · rw [(dropW_nil isD l.reverse).2 (by rw [List.all_reverse]; exact h)]; rfl
theorem digB_isD (s : ByteArray) : digB s = s.data.toList.all isD := rfl
theorem decFrom_dig : ∀ (l : List UInt8) (acc : Nat), l.all isD = true → ∃ m, Lib.decFrom acc l = some m
  | [], acc, _ => ⟨acc, rfl⟩
  | b :: l, acc, h => by
    rw [List.all_cons, Bool.and_eq_true] at h
    have hb := h.1
    simp only [isD, Bool.and_eq_true, decide_eq_true_eq] at hb
    simp only [Lib.decFrom, Lib.digitVal, if_pos hb]
    exact decFrom_dig l _ h.2
theorem atoi_dig (l : List UInt8) (h0 : l ≠ []) (h : l.all isD = true) (h7 : l.length ≤ 7) : ∃ m : Nat, Lib.atoi l = some (m : Int) ∧ m ≤ 9999999 := by
  obtain ⟨m, hm⟩ := decFrom_dig l 0 h
  have hlt := Lib.decFrom_lt l 0 m hm
  have hp : 10 ^ l.length ≤ 10 ^ 7 := Nat.pow_le_pow_right (by omega) h7
  match l, h0 with
  | b :: l, _ =>
    rw [List.all_cons, Bool.and_eq_true] at h
    have hb := h.1
    simp only [isD, Bool.and_eq_true, decide_eq_true_eq] at hb
    have h45 : (b == 45) = false := by rw [beq_eq_false_iff_ne]; rintro rfl; exact absurd hb.1 (by decide)
    have h43 : (b == 43) = false := by rw [beq_eq_false_iff_ne]; rintro rfl; exact absurd hb.1 (by decide)
    refine ⟨m, ?_, by omega⟩
    simp only [Lib.atoi, h45, h43, Lib.decNat, hm]
    rfl
/-- A text that is a number. -/
theorem numT_ok {s : ByteArray} {n : Nat} (h : numT s = .ok n) : 1 ≤ s.size ∧ s.size ≤ 7 ∧ s.data.toList.all isD = true ∧ Lib.atoi s.data.toList = some (n : Int) ∧ n ≤ 9999999 := by
  unfold numT at h
  split at h
  · cases h
  · rename_i hc
    have h1 : 1 ≤ s.size := by omega
    have h7 : s.size ≤ 7 := by omega
    have hd : digB s = true := by
      cases hd : digB s with
      | true => rfl
      | false => exact absurd (.inr (.inr hd)) hc
    rw [digB_isD] at hd
    have hl : s.data.toList.length = s.size := by simp
    obtain ⟨m, hm, hm9⟩ := atoi_dig s.data.toList (fun e => by rw [e] at hl; simp at hl; omega) hd (by omega)
    rw [hm] at h
    simp only [Option.getD_some, Int.toNat_natCast, Except.ok.injEq] at h
    subst h
    exact ⟨h1, h7, hd, hm, hm9⟩
theorem numT_bad {s : ByteArray} {e : Int} (h : numT s = .error e) : e = 12 ∧ (s.size < 1 ∨ 7 < s.size ∨ (1 ≤ s.size ∧ s.size ≤ 7 ∧ s.data.toList.all isD = false)) := by
  unfold numT at h
  split at h
  · rename_i hc
    simp only [Except.error.injEq] at h
    refine ⟨h.symm, ?_⟩
    rcases hc with hc | hc | hc
    · exact .inl hc
    · exact .inr (.inl hc)
    · by_cases h1 : s.size < 1
      · exact .inl h1
      · by_cases h7 : 7 < s.size
        · exact .inr (.inl h7)
        · exact .inr (.inr ⟨by omega, by omega, hc⟩)
  · cases h
/-- A form's numbers are small. -/
theorem formGo_small : ∀ (ws : List ByteArray) (f : List Bool) (ns : List Nat) (x : ByteArray) (r : List Nat × ByteArray), (∀ n ∈ ns, n ≤ 9999999) → formGo ws f ns x = .ok r → ∀ n ∈ r.1, n ≤ 9999999
  | [], [], ns, x, r, hn, h => by
    simp only [formGo, Except.ok.injEq] at h
    subst h; exact hn
  | [], _ :: _, ns, x, r, hn, h => by
    simp only [formGo, Except.ok.injEq] at h
    subst h; exact hn
  | _ :: _, [], ns, x, r, hn, h => by
    simp only [formGo, Except.ok.injEq] at h
    subst h; exact hn
  | w :: ws, true :: fs, ns, x, r, hn, h => by
    simp only [formGo] at h
    exact formGo_small ws fs ns w r hn h
  | w :: ws, false :: fs, ns, x, r, hn, h => by
    simp only [formGo] at h
    cases hw : numT w with
    | error e => rw [hw] at h; cases h
    | ok n =>
      rw [hw] at h
      exact formGo_small ws fs _ x r (fun y hy => by
        rcases List.mem_append.1 hy with hy | hy
        · exact hn y hy
        · rw [List.mem_singleton] at hy
          subst hy; exact (numT_ok hw).2.2.2.2) h
theorem formGo_err : ∀ (ws : List ByteArray) (f : List Bool) (ns : List Nat) (x : ByteArray) (e : Int), formGo ws f ns x = .error e → e = 12
  | [], [], ns, x, e, h => by cases h
  | [], _ :: _, ns, x, e, h => by cases h
  | _ :: _, [], ns, x, e, h => by cases h
  | w :: ws, true :: fs, ns, x, e, h => by
    simp only [formGo] at h
    exact formGo_err ws fs ns w e h
  | w :: ws, false :: fs, ns, x, e, h => by
    simp only [formGo] at h
    cases hw : numT w with
    | error e' =>
      rw [hw] at h
      simp only [Except.error.injEq] at h
      subst h; exact (numT_bad hw).1
    | ok n => rw [hw] at h; exact formGo_err ws fs _ x e h
theorem formT_err {ws : List ByteArray} {f : List Bool} {e : Int} (h : formT ws f = .error e) : e = 12 := by
  unfold formT at h
  split at h
  · simp only [Except.error.injEq] at h
    exact h.symm
  · exact formGo_err _ _ _ _ _ h
theorem formT_ok {ws : List ByteArray} {f : List Bool} {ns : List Nat} {x : ByteArray} (h : formT ws f = .ok (ns, x)) : ws.length = f.length ∧ ns.length = (f.filter fun b => !b).length ∧ ∀ n ∈ ns, n ≤ 9999999 := by
  unfold formT at h
  split at h
  · cases h
  · rename_i hl
    have hl : ws.length = f.length := by simpa using hl
    have h1 := formGo_len ws f [] _ _ hl h
    exact ⟨hl, by simpa using h1, formGo_small ws f [] _ _ (fun n hn => by cases hn) h⟩

/-! ### The commands that compute -/
noncomputable def bezX (a b : Nat) : Int := if b = 0 then (if a = 0 then 0 else 1) else Wm.inv ((a / Nat.gcd a b : Nat) : Int) ((b / Nat.gcd a b : Nat) : Int)
noncomputable def bezY (a b : Nat) : Int := if b = 0 then 0 else ((Nat.gcd a b : Int) - bezX a b * a).tdiv b
/-- The factors of a number, one after the other. -/
noncomputable def facL (n : Nat) : List (Nat × Nat) := @dite _ (∃ l, Wm.IsFac n l) (Classical.propDecidable _) (fun h => h.choose) (fun _ => [])
theorem facL_eq {n : Nat} {l : List (Nat × Nat)} (h : Wm.IsFac n l) : facL n = l := by
  unfold facL
  have hex : ∃ l, Wm.IsFac n l := ⟨l, h⟩
  rw [dif_pos hex]
  exact Wm.fac_unique hex.choose_spec h
def facI (l : List (Nat × Nat)) : List Int := l.flatMap fun x => [(x.1 : Int), (x.2 : Int)]
def rootF (a p : Nat) : Option Nat := (List.range p).find? fun x => decide (x * x % p = a % p)
noncomputable def rootT (a p : Nat) : Except Int ByteArray := @ite _ (Wm.Prime p ∧ p ≤ 1000000) (Classical.propDecidable _) (match rootF a p with | some x => .ok (numsB [(x : Int)]) | none => .error 4) (.error 1)
def cGcd : ByteArray := ⟨#[103, 99, 100]⟩
def cFactor : ByteArray := ⟨#[102, 97, 99, 116, 111, 114]⟩
def cRoot : ByteArray := ⟨#[114, 111, 111, 116]⟩
def cCode : ByteArray := ⟨#[99, 111, 100, 101]⟩
noncomputable def compT (cmd : ByteArray) (ws : List ByteArray) : Except Int ByteArray :=
  if cmd = cGcd then (formT ws [false, false]).bind fun r => .ok (numsB [bezX (r.1.getD 0 0) (r.1.getD 1 0), bezY (r.1.getD 0 0) (r.1.getD 1 0), (Nat.gcd (r.1.getD 0 0) (r.1.getD 1 0) : Int)])
  else if cmd = cFactor then (formT ws [false]).bind fun r => if r.1.getD 0 0 < 1 ∨ 1000000 < r.1.getD 0 0 then .error 1 else .ok (numsB (facI (facL (r.1.getD 0 0))))
  else if cmd = cRoot then (formT ws [false, false]).bind fun r => rootT (r.1.getD 0 0) (r.1.getD 1 0)
  else if cmd = cCode then (formT ws [false]).bind fun r => if 2048 ≤ r.1.getD 0 0 then .error 1 else .ok (numsB [(Wm.hput (r.1.getD 0 0) : Int)])
  else .error 12
end Go.Proofs.YtpenkbhljkmliaaGreatDoor
