/- Plain mathematics of the codec: no program, no memory. -/
import Derived.Below
namespace Go.Proofs.Ytkmmaijkidkoiaa

/-- A number's bytes. -/
def putN (n : Nat) : List UInt8 := if n < 128 then [UInt8.ofNat n] else UInt8.ofNat (n % 128 + 128) :: putN (n / 128)
termination_by n
decreasing_by omega
theorem putN_lt {n : Nat} (h : n < 128) : putN n = [UInt8.ofNat n] := by rw [putN, if_pos h]
theorem putN_ge {n : Nat} (h : ¬ n < 128) : putN n = UInt8.ofNat (n % 128 + 128) :: putN (n / 128) := by rw [putN, if_neg h]
theorem putN_len (n : Nat) : ∀ k, n < 128 ^ (k + 1) → (putN n).length ≤ k + 1 := by
  induction n using Nat.strongRecOn with
  | _ n ih =>
    intro k hk
    by_cases h : n < 128
    · rw [putN_lt h]; simp
    · rw [putN_ge h]
      cases k with
      | zero => simp at hk; omega
      | succ k =>
        have hd : n / 128 < 128 ^ (k + 1) := by
          rw [Nat.div_lt_iff_lt_mul (by omega)]
          calc n < 128 ^ (k + 1 + 1) := hk
            _ = 128 ^ (k + 1) * 128 := Nat.pow_succ ..
        have := ih (n / 128) (by omega) k hd
        simp
        exact this
theorem putN_len10 (n : Nat) (h : n < 9223372036854775808) : (putN n).length ≤ 10 := putN_len n 9 (Nat.lt_of_lt_of_le h (by decide))
/-- An int's bytes: below 0 it counts as 0. -/
def putI (n : Int) : List UInt8 := putN n.toNat
theorem flat_len (ns : List Int) (h : ∀ x ∈ ns, x < 9223372036854775808) : (ns.flatMap putI).length ≤ 10 * ns.length := by
  induction ns with
  | nil => simp
  | cons x l ih =>
    have h1 := putN_len10 x.toNat (by have := h x (by simp); omega)
    have h2 := ih (fun y hy => h y (by simp [hy]))
    simp only [List.flatMap_cons, List.length_append, List.length_cons, putI] at *
    omega
theorem take_flat {α β : Type} (f : α → List β) (l : List α) (k : Nat) (d : α) (h : k < l.length) : (l.take (k + 1)).flatMap f = (l.take k).flatMap f ++ f (l.getD k d) := by
  rw [List.take_succ_eq_append_getElem h, List.flatMap_append]
  simp [List.getD_eq_getElem?_getD, h]
end Go.Proofs.Ytkmmaijkidkoiaa
