/- Keys as bytes: the plain mathematics of layer 1: what is read of bytes, and that what is read is written just so. -/
import Derived.Test.YtkmmaijkidkoiaaPure
namespace Go.Proofs.Ytkmmaijkidkoiaa

/-- A number of bytes, the greatest first. -/
def be (l : List UInt8) : Nat := l.foldl (fun n c => n * 256 + c.toNat) 0
/-- k bytes of a number, the greatest first. -/
def unbe (n : Nat) : Nat → List UInt8
  | 0 => []
  | k + 1 => unbe (n / 256) k ++ [UInt8.ofNat n]
theorem be_snoc (l : List UInt8) (c : UInt8) : be (l ++ [c]) = be l * 256 + c.toNat := by simp [be]
theorem unbe_length (n k : Nat) : (unbe n k).length = k := by
  induction k generalizing n with
  | zero => rfl
  | succ k ih => simp [unbe, ih]
theorem be_lt (l : List UInt8) : be l < 256 ^ l.length := by
  generalize hn : l.length = n
  induction n generalizing l with
  | zero => obtain rfl := List.eq_nil_of_length_eq_zero hn; simp [be]
  | succ n ih =>
    obtain ⟨l', c, rfl⟩ : ∃ l' c, l = l' ++ [c] := ⟨l.dropLast, l.getLast (by intro e; subst e; simp at hn), (List.dropLast_concat_getLast _).symm⟩
    have h := ih l' (by simpa using hn)
    have hc := c.toNat_lt
    rw [be_snoc, Nat.pow_succ]
    omega
theorem unbe_be (l : List UInt8) : unbe (be l) l.length = l := by
  generalize hn : l.length = n
  induction n generalizing l with
  | zero => obtain rfl := List.eq_nil_of_length_eq_zero hn; rfl
  | succ n ih =>
    obtain ⟨l', c, rfl⟩ : ∃ l' c, l = l' ++ [c] := ⟨l.dropLast, l.getLast (by intro e; subst e; simp at hn), (List.dropLast_concat_getLast _).symm⟩
    have h := ih l' (by simpa using hn)
    have hc := c.toNat_lt
    rw [be_snoc, unbe]
    have e1 : (be l' * 256 + c.toNat) / 256 = be l' := by omega
    have e2 : UInt8.ofNat (be l' * 256 + c.toNat) = c := by
      apply UInt8.toNat_inj.1
      simp
    rw [e1, e2, h]

/-- A part of a tuple. -/
structure Prt where
  isT : Bool
  num : Int
  txt : List UInt8
/-- A number's bytes, with its sign turned. -/
def numB (n : Int) : List UInt8 := unbe (n + 9223372036854775808).toNat 8
def esc (l : List UInt8) : List UInt8 := l.flatMap (fun c => if c = 0 then [0, 255] else [c])
def Prt.bytes (p : Prt) : List UInt8 := if p.isT then 2 :: (esc p.txt ++ [0, 1]) else 1 :: numB p.num
def wrt (l : List Prt) : List UInt8 := l.flatMap Prt.bytes

/-- The number at the beginning. -/
def rdWord (b : List UInt8) : Except Int (Int × List UInt8) := if b.length < 8 then .error 3 else .ok ((be (b.take 8) : Int) - 9223372036854775808, b.drop 8)
/-- The text at the beginning. -/
def rdText (b : List UInt8) : Except Int (List UInt8 × List UInt8) :=
  match b with
  | [] => .error 3
  | c :: r =>
    if c ≠ 0 then (match rdText r with | .ok (s, q) => .ok (c :: s, q) | .error e => .error e)
    else match r with
      | [] => .error 3
      | d :: r' => if d = 255 then (match rdText r' with | .ok (s, q) => .ok (0 :: s, q) | .error e => .error e) else if d = 1 then .ok ([], r') else .error 2
termination_by b.length
decreasing_by all_goals simp_wf; all_goals omega
theorem rdText_nil : rdText [] = .error 3 := by rw [rdText]
theorem rdText_ne {c : UInt8} {r : List UInt8} (h : c ≠ 0) : rdText (c :: r) = (match rdText r with | .ok (s, q) => .ok (c :: s, q) | .error e => .error e) := by
  rw [rdText.eq_def]
  simp only [if_pos h]
theorem rdText_zero : rdText [0] = .error 3 := by rw [rdText]; simp
theorem rdText_255 {r : List UInt8} : rdText (0 :: 255 :: r) = (match rdText r with | .ok (s, q) => .ok (0 :: s, q) | .error e => .error e) := by rw [rdText]; simp
theorem rdText_1 {r : List UInt8} : rdText (0 :: 1 :: r) = .ok ([], r) := by rw [rdText]; simp
theorem rdText_other {d : UInt8} {r : List UInt8} (h1 : d ≠ 255) (h2 : d ≠ 1) : rdText (0 :: d :: r) = .error 2 := by rw [rdText]; simp [h1, h2]
theorem rdText_ok (b s r : List UInt8) (h : rdText b = .ok (s, r)) : b = esc s ++ [0, 1] ++ r := by
  generalize hn : b.length = n
  induction n using Nat.strongRecOn generalizing b s with
  | _ n ih =>
    match b with
    | [] => rw [rdText_nil] at h; cases h
    | c :: q =>
      by_cases hc : c = 0
      · subst hc
        match q with
        | [] => rw [rdText_zero] at h; cases h
        | d :: q =>
          by_cases h1 : d = 255
          · subst h1
            rw [rdText_255] at h
            cases ht : rdText q with
            | error e => rw [ht] at h; cases h
            | ok sr =>
              obtain ⟨s', r'⟩ := sr
              rw [ht] at h
              simp only [Except.ok.injEq, Prod.mk.injEq] at h
              obtain ⟨rfl, rfl⟩ := h
              have := ih q.length (by simp at hn; omega) q s' ht rfl
              rw [this]
              simp [esc]
          · by_cases h2 : d = 1
            · subst h2
              rw [rdText_1] at h
              simp only [Except.ok.injEq, Prod.mk.injEq] at h
              obtain ⟨rfl, rfl⟩ := h
              simp [esc]
            · rw [rdText_other h1 h2] at h; cases h
      · rw [rdText_ne hc] at h
        cases ht : rdText q with
        | error e => rw [ht] at h; cases h
        | ok sr =>
          obtain ⟨s', r'⟩ := sr
          rw [ht] at h
          simp only [Except.ok.injEq, Prod.mk.injEq] at h
          obtain ⟨rfl, rfl⟩ := h
          have := ih q.length (by simp at hn; omega) q s' ht rfl
          rw [this]
          simp [esc, hc]
theorem rdText_err (b : List UInt8) (x : Int) (h : rdText b = .error x) : x ≠ 0 := by
  generalize hn : b.length = n
  induction n using Nat.strongRecOn generalizing b with
  | _ n ih =>
    match b with
    | [] => rw [rdText_nil] at h; cases h; decide
    | c :: q =>
      by_cases hc : c = 0
      · subst hc
        match q with
        | [] => rw [rdText_zero] at h; cases h; decide
        | d :: q =>
          by_cases h1 : d = 255
          · subst h1
            rw [rdText_255] at h
            cases ht : rdText q with
            | error e =>
              rw [ht] at h
              simp only [Except.error.injEq] at h
              subst h
              exact ih q.length (by simp at hn; omega) q ht rfl
            | ok sr => rw [ht] at h; cases h
          · by_cases h2 : d = 1
            · subst h2
              rw [rdText_1] at h
              cases h
            · rw [rdText_other h1 h2] at h; cases h; decide
      · rw [rdText_ne hc] at h
        cases ht : rdText q with
        | error e =>
          rw [ht] at h
          simp only [Except.error.injEq] at h
          subst h
          exact ih q.length (by simp at hn; omega) q ht rfl
        | ok sr => rw [ht] at h; cases h
theorem rdWord_err (b : List UInt8) (x : Int) (h : rdWord b = .error x) : x ≠ 0 := by
  unfold rdWord at h
  split at h
  · cases h; decide
  · cases h
theorem rdWord_short (b : List UInt8) (x : Int) (q : List UInt8) (h : rdWord b = .ok (x, q)) : q.length ≤ b.length := by
  unfold rdWord at h
  split at h
  · cases h
  · simp only [Except.ok.injEq, Prod.mk.injEq] at h
    rw [← h.2]
    simp
theorem rdText_short (b s r : List UInt8) (h : rdText b = .ok (s, r)) : s.length + r.length + 2 ≤ b.length := by
  have h1 := rdText_ok b s r h
  have h2 : s.length ≤ (esc s).length := by
    clear h h1
    induction s with
    | nil => simp
    | cons c s ih =>
      have e : esc (c :: s) = (if c = 0 then [0, 255] else [c]) ++ esc s := rfl
      rw [e, List.length_append, List.length_cons]
      split <;> simp only [List.length_cons, List.length_nil] <;> omega
  rw [h1]
  simp
  omega
set_option linter.unusedVariables false in
/-- The tuple of bytes, or the error's number. -/
def rdParts (b : List UInt8) : Except Int (List Prt) :=
  match b with
  | [] => .ok []
  | k :: r =>
    if k = 1 then
      match h : rdWord r with
      | .ok (n, q) => (match rdParts q with | .ok l => .ok (⟨false, n, []⟩ :: l) | .error e => .error e)
      | .error e => .error e
    else if k = 2 then
      match h : rdText r with
      | .ok (s, q) => (match rdParts q with | .ok l => .ok (⟨true, 0, s⟩ :: l) | .error e => .error e)
      | .error e => .error e
    else .error 2
termination_by b.length
decreasing_by
  · simp_wf
    unfold rdWord at h
    split at h
    · cases h
    · simp only [Except.ok.injEq, Prod.mk.injEq] at h
      rw [← h.2]
      simp
      omega
  · simp_wf
    have := rdText_short _ _ _ h
    omega
theorem rdParts_nil : rdParts [] = .ok [] := by rw [rdParts]
theorem rdParts_word {r : List UInt8} : rdParts (1 :: r) = (match rdWord r with | .ok (n, q) => (match rdParts q with | .ok l => .ok (⟨false, n, []⟩ :: l) | .error e => .error e) | .error e => .error e) := by
  rw [rdParts]
  simp only [if_true]
  split <;> rename_i h <;> simp [h]
theorem rdParts_text {r : List UInt8} : rdParts (2 :: r) = (match rdText r with | .ok (s, q) => (match rdParts q with | .ok l => .ok (⟨true, 0, s⟩ :: l) | .error e => .error e) | .error e => .error e) := by
  rw [rdParts]
  rw [if_neg (by decide), if_pos rfl]
  split <;> rename_i h <;> simp [h]
theorem rdParts_other {k : UInt8} {r : List UInt8} (h1 : k ≠ 1) (h2 : k ≠ 2) : rdParts (k :: r) = .error 2 := by
  rw [rdParts, if_neg h1, if_neg h2]
theorem rdParts_word_ok {r q : List UInt8} {n : Int} (h : rdWord r = .ok (n, q)) : rdParts (1 :: r) = (rdParts q).map (⟨false, n, []⟩ :: ·) := by
  rw [rdParts_word, h]
  cases hq : rdParts q <;> simp [Except.map, hq]
theorem rdParts_text_ok {r q s : List UInt8} (h : rdText r = .ok (s, q)) : rdParts (2 :: r) = (rdParts q).map (⟨true, 0, s⟩ :: ·) := by
  rw [rdParts_text, h]
  cases hq : rdParts q <;> simp [Except.map, hq]
theorem word_bytes (b : List UInt8) (h : 8 ≤ b.length) : numB ((be (b.take 8) : Int) - 9223372036854775808) = b.take 8 := by
  have hl : (b.take 8).length = 8 := by simp; omega
  have := unbe_be (b.take 8)
  rw [hl] at this
  unfold numB
  rw [show ((be (b.take 8) : Int) - 9223372036854775808 + 9223372036854775808).toNat = be (b.take 8) from by omega]
  exact this
/-- What is read of bytes is written just so. -/
theorem rdParts_ok (b : List UInt8) (l : List Prt) (h : rdParts b = .ok l) : wrt l = b := by
  generalize hn : b.length = n
  induction n using Nat.strongRecOn generalizing b l with
  | _ n ih =>
    match b with
    | [] =>
      rw [rdParts_nil] at h
      simp only [Except.ok.injEq] at h
      subst h
      rfl
    | k :: r =>
      simp only [List.length_cons] at hn
      by_cases h1 : k = 1
      · subst h1
        rw [rdParts_word] at h
        unfold rdWord at h
        by_cases h8 : r.length < 8
        · rw [if_pos h8] at h; cases h
        · rw [if_neg h8] at h
          simp only at h
          cases hq : rdParts (r.drop 8) with
          | error e => rw [hq] at h; cases h
          | ok l' =>
            rw [hq] at h
            simp only [Except.ok.injEq] at h
            subst h
            have := ih (r.drop 8).length (by simp; omega) _ _ hq rfl
            simp only [wrt, List.flatMap_cons] at *
            rw [this]
            simp [Prt.bytes, word_bytes r (by omega)]
      · by_cases h2 : k = 2
        · subst h2
          rw [rdParts_text] at h
          cases ht : rdText r with
          | error e => rw [ht] at h; cases h
          | ok sq =>
            obtain ⟨s, q⟩ := sq
            rw [ht] at h
            simp only at h
            cases hq : rdParts q with
            | error e => rw [hq] at h; cases h
            | ok l' =>
              rw [hq] at h
              simp only [Except.ok.injEq] at h
              subst h
              have hs := rdText_short _ _ _ ht
              have := ih q.length (by omega) _ _ hq rfl
              simp only [wrt, List.flatMap_cons] at *
              rw [this]
              have := rdText_ok _ _ _ ht
              simp [Prt.bytes, this]
        · rw [rdParts_other h1 h2] at h; cases h

theorem rdParts_err (b : List UInt8) (x : Int) (h : rdParts b = .error x) : x ≠ 0 := by
  generalize hn : b.length = n
  induction n using Nat.strongRecOn generalizing b with
  | _ n ih =>
    match b with
    | [] => rw [rdParts_nil] at h; cases h
    | k :: r =>
      simp only [List.length_cons] at hn
      by_cases h1 : k = 1
      · subst h1
        cases hw : rdWord r with
        | error e =>
          rw [rdParts_word, hw] at h
          simp only [Except.error.injEq] at h
          subst h
          exact rdWord_err r _ hw
        | ok nq =>
          obtain ⟨m, q⟩ := nq
          rw [rdParts_word_ok hw] at h
          cases hq : rdParts q with
          | ok l => rw [hq] at h; cases h
          | error e =>
            rw [hq] at h
            simp only [Except.map, Except.error.injEq] at h
            subst h
            exact ih q.length (by have := rdWord_short _ _ _ hw; omega) q hq rfl
      · by_cases h2 : k = 2
        · subst h2
          cases hw : rdText r with
          | error e =>
            rw [rdParts_text, hw] at h
            simp only [Except.error.injEq] at h
            subst h
            exact rdText_err r _ hw
          | ok nq =>
            obtain ⟨m, q⟩ := nq
            rw [rdParts_text_ok hw] at h
            cases hq : rdParts q with
            | ok l => rw [hq] at h; cases h
            | error e =>
              rw [hq] at h
              simp only [Except.map, Except.error.injEq] at h
              subst h
              exact ih q.length (by have := rdText_short _ _ _ hw; omega) q hq rfl
        · rw [rdParts_other h1 h2] at h
          cases h
          decide
/-- A part is a number or a text. -/
def Prt.Pure (p : Prt) : Prop := p = ⟨p.isT, if p.isT then 0 else p.num, if p.isT then p.txt else []⟩
theorem rdParts_pure (b : List UInt8) (l : List Prt) (h : rdParts b = .ok l) : ∀ p ∈ l, p.Pure ∧ p.txt.length ≤ b.length ∧ -9223372036854775808 ≤ p.num ∧ p.num ≤ 9223372036854775807 := by
  generalize hn : b.length = n
  induction n using Nat.strongRecOn generalizing b l with
  | _ n ih =>
    match b with
    | [] =>
      rw [rdParts_nil] at h
      simp only [Except.ok.injEq] at h
      subst h
      intro p hp
      cases hp
    | k :: r =>
      simp only [List.length_cons] at hn
      by_cases h1 : k = 1
      · subst h1
        cases hw : rdWord r with
        | error e => rw [rdParts_word, hw] at h; cases h
        | ok nq =>
          obtain ⟨m, q⟩ := nq
          rw [rdParts_word_ok hw] at h
          cases hq : rdParts q with
          | error e => rw [hq] at h; cases h
          | ok l' =>
            rw [hq] at h
            simp only [Except.map, Except.ok.injEq] at h
            subst h
            have hs := rdWord_short _ _ _ hw
            have := ih q.length (by omega) q l' hq rfl
            intro p hp
            rcases List.mem_cons.1 hp with rfl | hp
            · refine ⟨rfl, by simp, ?_⟩
              unfold rdWord at hw
              split at hw
              · cases hw
              · simp only [Except.ok.injEq, Prod.mk.injEq] at hw
                have hb := be_lt (r.take 8)
                have hl : (r.take 8).length = 8 := by simp; omega
                rw [hl] at hb
                rw [← hw.1]
                simp only
                omega
            · have := this p hp
              exact ⟨this.1, by omega, this.2.2⟩
      · by_cases h2 : k = 2
        · subst h2
          cases hw : rdText r with
          | error e => rw [rdParts_text, hw] at h; cases h
          | ok nq =>
            obtain ⟨m, q⟩ := nq
            rw [rdParts_text_ok hw] at h
            cases hq : rdParts q with
            | error e => rw [hq] at h; cases h
            | ok l' =>
              rw [hq] at h
              simp only [Except.map, Except.ok.injEq] at h
              subst h
              have hs := rdText_short _ _ _ hw
              have := ih q.length (by omega) q l' hq rfl
              intro p hp
              rcases List.mem_cons.1 hp with rfl | hp
              · exact ⟨rfl, by simp only; omega, by simp, by simp⟩
              · have := this p hp
                exact ⟨this.1, by omega, this.2.2⟩
        · rw [rdParts_other h1 h2] at h
          cases h

/-- A key's table and text, or the error's number. -/
def splitK (key : List UInt8) : Int × List UInt8 × Int :=
  match rdParts key with
  | .error e => (0, [], e)
  | .ok [p, q] => if p.isT = true ∨ q.isT = false ∨ p.num < 0 ∨ 4 ≤ p.num ∨ 40 < q.txt.length then (0, [], 2) else (p.num, q.txt, 0)
  | .ok _ => (0, [], 2)
end Go.Proofs.Ytkmmaijkidkoiaa
