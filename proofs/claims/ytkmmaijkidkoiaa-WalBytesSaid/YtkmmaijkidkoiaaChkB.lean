/- A frame's sum: the code's check.Sum. -/
import Derived.Test.YtkmmaijkidkoiaaChkA
import Derived.Laws.BitsAllLaws
namespace Go.Proofs.Ytkmmaijkidkoiaa
open Go Go.RowKit

/-- One bit of a sum. -/
def crcBit (s : Nat) : Nat := if s % 2 = 1 then (s / 2) ^^^ 3988292384 else s / 2
def crcBits : Nat → Nat → Nat
  | 0, s => s
  | k + 1, s => crcBit (crcBits k s)
def crcByte (s : Nat) (c : UInt8) : Nat := crcBits 8 (s ^^^ c.toNat)
def crcFrom (s : Nat) (l : List UInt8) : Nat := l.foldl crcByte s
/-- The sum of bytes. -/
def crc (l : List UInt8) : Nat := 4294967295 - crcFrom 4294967295 l
theorem crcBit_lt {s : Nat} (h : s < 4294967296) : crcBit s < 4294967296 := by
  unfold crcBit
  split
  · exact Nat.xor_lt_two_pow (n := 32) (by omega) (by decide)
  · omega
theorem crcBits_lt (k : Nat) {s : Nat} (h : s < 4294967296) : crcBits k s < 4294967296 := by
  induction k with
  | zero => exact h
  | succ k ih => exact crcBit_lt ih
theorem crcByte_lt {s : Nat} (h : s < 4294967296) (c : UInt8) : crcByte s c < 4294967296 := by
  have := c.toNat_lt
  exact crcBits_lt 8 (Nat.xor_lt_two_pow (n := 32) (by omega) (by omega))
theorem crcFrom_lt (l : List UInt8) {s : Nat} (h : s < 4294967296) : crcFrom s l < 4294967296 := by
  induction l generalizing s with
  | nil => exact h
  | cons c l ih => exact ih (crcByte_lt h c)

theorem not_nat (s : Nat) (h : s < 4294967296) : 4294967295 ^^^ s = 4294967295 - s := by
  apply Nat.eq_of_testBit_eq
  intro i
  rw [Nat.testBit_xor, show (4294967295 : Nat) = 2 ^ 32 - 1 from rfl, Nat.testBit_two_pow_sub_one, show 2 ^ 32 - 1 - s = 2 ^ 32 - (s + 1) from by omega, Nat.testBit_two_pow_sub_succ (by omega)]
  by_cases hi : i < 32
  · simp [hi]
  · have : s.testBit i = false := Nat.testBit_lt_two_pow (Nat.lt_of_lt_of_le h (Nat.pow_le_pow_right (n := 2) (by omega) (show 32 ≤ i by omega)))
    simp [hi, this]
theorem crc_not (s : Nat) (h : s < 4294967296) : wrap64 (bits BinOp.xor IntKind.u32 IntKind.u32.max (s : Int)) = ((4294967295 - s : Nat) : Int) := by
  have := u32_xor_nat 4294967295 s (by omega) h
  rw [show IntKind.u32.max = ((4294967295 : Nat) : Int) from rfl, this, not_nat s h, wrap64]
  omega
theorem crc_step (t : Nat) (ht : t < 4294967296) : bits BinOp.xor IntKind.u32 ((t : Int) / 2) (bits BinOp.and IntKind.u32 3988292384 (-bits BinOp.and IntKind.u32 (t : Int) 1 % 4294967296)) = (crcBit t : Int) := by
  have ha := u32_and_nat t 1 ht (by omega)
  rw [Nat.and_one_is_mod] at ha
  have hp : bits .and .u32 3988292384 4294967295 = 3988292384 := by decide
  have hp0 : bits .and .u32 3988292384 0 = 0 := by decide
  have e2 : ((t : Int) / 2) = ((t / 2 : Nat) : Int) := by omega
  rw [show (1 : Int) = ((1 : Nat) : Int) from rfl, ha, e2]
  rcases Nat.mod_two_eq_zero_or_one t with h | h
  · rw [h]
    have := u32_xor_nat (t / 2) 0 (by omega) (by omega)
    simp only [Nat.xor_zero] at this
    rw [show (-((0 : Nat) : Int) % 4294967296) = 0 from rfl, hp0, show (0 : Int) = ((0 : Nat) : Int) from rfl, this, crcBit, if_neg (by omega)]
  · rw [h]
    have := u32_xor_nat (t / 2) 3988292384 (by omega) (by omega)
    rw [show (-((1 : Nat) : Int) % 4294967296) = 4294967295 from rfl, hp, show (3988292384 : Int) = ((3988292384 : Nat) : Int) from rfl, this, crcBit, if_pos h]

set_option maxRecDepth 100000 in
set_option maxHeartbeats 1000000 in
theorem csum_c (A : Option Addr) (n c : Nat) (bs : List UInt8) (w : World) (hb : Rd w A (bs.map bv)) (hn : bs.length = n) (hl : n ≤ 1000000000) :
   Calls Try.prog 51 #[.slice A n c] w fun e w' => e = .returned (.int .i64 (crc bs : Int)) ∧ Below w.heap.size w w' := by
  replace hn := Lib.hid hn
  go_enter Try.func51, Try.ntmps51
  go_wp2
  go_loopw [3, 8] (fun s i wr => ∃ k : Nat, k ≤ n ∧ i = .int .i64 (k : Int) ∧ s = .int .u32 (crcFrom 4294967295 (bs.take k) : Int) ∧ Below w.heap.size w wr) (fun _ i _ => n - (intOf i).toNat)
  case atStart => exact ⟨0, by omega, rfl, rfl, Below.refl _ _⟩
  case round =>
    obtain ⟨k, hk, rfl, rfl, hB⟩ := hrel
    have hs0 := crcFrom_lt (bs.take k) (s := 4294967295) (by omega)
    by_cases hlt : k < n
    · have hlt' : k < bs.length := by rw [hn.out]; omega
      obtain ⟨b, o, rfl, hcell⟩ := (hb.ext hB).byte hlt'
      have htk : crcFrom 4294967295 (bs.take (k + 1)) = crcByte (crcFrom 4294967295 (bs.take k)) (bs.getD k 0) := by
        rw [List.take_succ_eq_append_getElem hlt', crcFrom, List.foldl_append]
        simp [crcFrom, List.getD_eq_getElem?_getD, hlt']
      generalize bs.getD k 0 = y at *
      generalize crcFrom 4294967295 (bs.take k) = s at *
      replace htk := Lib.hid htk
      have hy := y.toNat_lt
      have hx := u32_xor_nat s y.toNat hs0 (by omega)
      have hx0 : s ^^^ y.toNat < 4294967296 := Nat.xor_lt_two_pow (n := 32) (by omega) (by omega)
      have hby : crcByte s y = crcBits 8 (s ^^^ y.toNat) := rfl
      replace hby := Lib.hid hby
      generalize s ^^^ y.toNat = z at *
      go_wp2
      go_loop [3, 16] (fun s i => ∃ j : Nat, j ≤ 8 ∧ i = .int .i64 (j : Int) ∧ s = .int .u32 (crcBits j z : Int)) (fun _ i => 8 - (intOf i).toNat)
      all_goals first | (case atStart => exact ⟨0, by omega, rfl, rfl⟩) | skip
      case round =>
        obtain ⟨j, hj, rfl, rfl⟩ := hrel
        by_cases hj8 : j < 8
        · have ht := crcBits_lt j hx0
          have htt : crcBits (j + 1) z = crcBit (crcBits j z) := rfl
          replace htt := Lib.hid htt
          generalize crcBits j z = t at *
          have hst := crc_step t ht
          rw [← htt.out] at hst
          replace hst := Lib.hid hst
          go_wp2
          go_round
          case rel => exact ⟨j + 1, by omega, by go_num, by rw [hst.out]⟩
          case measure => simp [intOf]; omega
        · have e : j = 8 := by omega
          subst e
          rw [← hby.out, ← htk.out]
          go_wp2
          go_roundw
          case rel => exact ⟨k + 1, by omega, by go_num, rfl, hB⟩
          case measure => simp [intOf]; omega
    · have hfin : crcFrom 4294967295 (bs.take k) = crcFrom 4294967295 bs := by rw [List.take_of_length_le (by rw [hn.out]; omega)]
      rw [hfin] at hs0 ⊢
      have hcr : crc bs = 4294967295 - crcFrom 4294967295 bs := rfl
      replace hcr := Lib.hid hcr
      clear hfin
      generalize crcFrom 4294967295 bs = s at *
      go_wp2
      go_ret
      refine ⟨?_, hB⟩
      rw [hcr.out, ← crc_not s hs0]
      rfl
end Go.Proofs.Ytkmmaijkidkoiaa
