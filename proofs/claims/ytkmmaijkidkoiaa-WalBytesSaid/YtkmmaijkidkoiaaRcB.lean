/- The document's sum: the plain law of its bits. -/
import Derived.Test.YtkmmaijkidkoiaaRcA
namespace Go.Proofs.Ytkmmaijkidkoiaa
open Go Go.RowKit

theorem bit_mod (x i : Nat) : x / 2 ^ i % 2 = (x.testBit i).toNat := by
  rw [Nat.testBit_eq_decide_div_mod_eq]
  rcases Nat.mod_two_eq_zero_or_one (x / 2 ^ i) with h | h <;> simp [h]
theorem bit_xor (x y i : Nat) : (x / 2 ^ i % 2 + y / 2 ^ i % 2) % 2 = (x ^^^ y) / 2 ^ i % 2 := by
  rw [bit_mod, bit_mod, bit_mod, Nat.testBit_xor]
  cases x.testBit i <;> cases y.testBit i <;> rfl
theorem bit_step (s j : Nat) : (s / 2 ^ (j + 1) % 2 + (s % 2) * (3988292384 / 2 ^ j % 2)) % 2 = crcBit s / 2 ^ j % 2 := by
  have h1 : s / 2 ^ (j + 1) = s / 2 / 2 ^ j := by rw [Nat.pow_succ, Nat.mul_comm, Nat.div_div_eq_div_mul]
  rw [h1, crcBit]
  split
  · rename_i h
    rw [h, Nat.one_mul, bit_xor]
  · have h : s % 2 = 0 := by omega
    rw [h, Nat.zero_mul, Nat.add_zero, Nat.mod_mod]
theorem bit_last (s : Nat) (h : s < 4294967296) : (s % 2) * (3988292384 / 2 ^ 31 % 2) = crcBit s / 2 ^ 31 % 2 := by
  have := bit_step s 31
  rw [show s / 2 ^ (31 + 1) = 0 from Nat.div_eq_of_lt (by omega)] at this
  rw [← this]
  rcases Nat.mod_two_eq_zero_or_one s with h | h <;> rw [h]

/-- 32 bits, the lowest k of them those of another number. -/
def mix (s t k : Nat) : List Value := (List.range 32).map fun i => iv ((if i < k then t / 2 ^ i % 2 else s / 2 ^ i % 2 : Nat) : Int)
theorem mix_len (s t k : Nat) : (mix s t k).length = 32 := by simp [mix]
theorem mix_get (s t k i : Nat) (hi : i < 32) : (mix s t k)[i]? = some (iv ((if i < k then t / 2 ^ i % 2 else s / 2 ^ i % 2 : Nat) : Int)) := by
  simp [mix, hi]
theorem mix_zero (s t : Nat) : mix s t 0 = bitRow s 32 := by
  apply List.ext_getElem?
  intro i
  by_cases hi : i < 32
  · rw [mix_get s t 0 i hi, bitRow_get s 32 i hi, if_neg (by omega), if_pos hi]
  · rw [List.getElem?_eq_none (by rw [mix_len]; omega), List.getElem?_eq_none (by rw [bitRow_len]; omega)]
theorem mix_all (s t : Nat) : mix s t 32 = bitRow t 32 := by
  apply List.ext_getElem?
  intro i
  by_cases hi : i < 32
  · rw [mix_get s t 32 i hi, bitRow_get t 32 i hi, if_pos hi, if_pos hi]
  · rw [List.getElem?_eq_none (by rw [mix_len]; omega), List.getElem?_eq_none (by rw [bitRow_len]; omega)]
theorem mix_set (s t k : Nat) (hk : k < 32) : (mix s t k).set k (iv ((t / 2 ^ k % 2 : Nat) : Int)) = mix s t (k + 1) := by
  apply List.ext_getElem?
  intro i
  by_cases hi : i < 32
  · rw [mix_get s t (k + 1) i hi]
    by_cases hik : i = k
    · subst hik
      rw [List.getElem?_set_self (by rw [mix_len]; omega), if_pos (by omega)]
    · rw [List.getElem?_set_ne (by omega), mix_get s t k i hi]
      by_cases h : i < k
      · rw [if_pos h, if_pos (by omega)]
      · rw [if_neg h, if_neg (by omega)]
  · rw [List.getElem?_eq_none (by rw [List.length_set, mix_len]; omega), List.getElem?_eq_none (by rw [mix_len]; omega)]
/-- What is read of another block stays where a cell is stored. -/
theorem Rd.set_ne {w : World} {b o g j : Nat} {cs : List Value} {u : Value} (h : Rd w (some ⟨b, o, none⟩) cs) (hne : g ≠ b) : Rd (w.setCell ⟨g, j, none⟩ u) (some ⟨b, o, none⟩) cs := by
  rcases h with h | ⟨b', o', hA, hc⟩
  · exact .inl h
  · injection hA with hA
    injection hA with h1 h2
    subst h1 h2
    exact .inr ⟨b, o, rfl, fun i v hi => (World.cell?_setCell_other _ _ _ _ (by intro e; injection e with e _; exact hne e)).trans (hc i v hi)⟩
end Go.Proofs.Ytkmmaijkidkoiaa
