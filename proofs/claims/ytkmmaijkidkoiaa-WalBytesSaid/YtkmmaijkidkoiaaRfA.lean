/- Keys as bytes: the document's reading of a number. -/
import Derived.Test.YtkmmaijkidkoiaaOrdD
namespace Go.Proofs.Ytkmmaijkidkoiaa
open Go Go.RowKit

theorem be_go (l : List UInt8) (a : Nat) : l.foldl (fun n c => n * 256 + c.toNat) a = a * 256 ^ l.length + be l := by
  induction l generalizing a with
  | nil => simp [be]
  | cons c l ih =>
    have e : be (c :: l) = c.toNat * 256 ^ l.length + be l := by
      have h : be (c :: l) = l.foldl (fun n c => n * 256 + c.toNat) (0 * 256 + c.toNat) := rfl
      rw [h, ih, Nat.zero_mul, Nat.zero_add]
    rw [List.foldl_cons, ih, e, List.length_cons, Nat.pow_succ, Nat.add_mul, Nat.mul_assoc, Nat.mul_comm 256, Nat.add_assoc]
theorem be_cons (c : UInt8) (l : List UInt8) : be (c :: l) = c.toNat * 256 ^ l.length + be l := by
  rw [be, List.foldl_cons, be_go]; simp
/-- The first byte without its first bit. -/
def low7 (c : UInt8) : UInt8 := UInt8.ofNat (c.toNat % 128)
theorem low7_nat (c : UInt8) : (low7 c).toNat = c.toNat % 128 := by unfold low7; simp; omega
theorem be_low (c : UInt8) (l : List UInt8) (k : Nat) (hk : k ≤ 7) : be ((low7 c :: l).take k) < 36028797018963968 := by
  cases k with
  | zero => simp [be]
  | succ k =>
    rw [List.take_succ_cons, be_cons, low7_nat]
    have h1 := be_lt (l.take k)
    have h2 : (l.take k).length ≤ 6 := by rw [List.length_take]; omega
    have h3 : 256 ^ (l.take k).length ≤ 256 ^ 6 := Nat.pow_le_pow_right (by omega) h2
    generalize 256 ^ (l.take k).length = x at *
    have h4 : c.toNat % 128 * x ≤ 127 * x := Nat.mul_le_mul_right x (by omega)
    omega
theorem be_high (c : UInt8) (l : List UInt8) (hl : l.length = 7) : be (c :: l) = be (low7 c :: l) + (if c.toNat < 128 then 0 else 9223372036854775808) := by
  rw [be_cons, be_cons, low7_nat, hl]
  have := c.toNat_lt
  split <;> omega

set_option maxRecDepth 100000 in
set_option maxHeartbeats 400000 in
theorem value_c (A : Option Addr) (c : Nat) (x : UInt8) (l : List UInt8) (w : World) (hb : Rd w A ((x :: l).map bv)) (hl : l.length = 7) :
   Calls Try.prog 89 #[.slice A 8 c] w fun e w' => e = .returned (.int .i64 ((be (x :: l) : Int) - 9223372036854775808)) ∧ Below w.heap.size w w' := by
  obtain ⟨b, o, rfl, hcell0⟩ := hb.byte (k := 0) (by simp)
  simp only [List.getD_cons_zero, Nat.add_zero] at hcell0
  have hx := x.toNat_lt
  have hh := be_high x l hl
  have hbe := be_low x l
  replace hl := Lib.hid hl
  replace hh := Lib.hid hh
  go_enter Try.func89, Try.ntmps89
  go_wp2
  go_loop [3, 4] (fun n i => ∃ k : Nat, 1 ≤ k ∧ k ≤ 8 ∧ i = .int .i64 (k : Int) ∧ n = .int .i64 (be ((low7 x :: l).take k) : Int)) (fun _ i => 8 - (intOf i).toNat)
  case atStart => exact ⟨1, by omega, by omega, rfl, by simp [be, low7_nat]⟩
  case round =>
    obtain ⟨k, hk1, hk, rfl, rfl⟩ := hrel
    by_cases hlt : k < 8
    · obtain ⟨b', o', hbo, hcell⟩ := hb.byte (k := k) (by simp [hl.out]; omega)
      injection hbo with hbo
      injection hbo with hb1 hb2
      subst hb1 hb2
      have HX : (low7 x :: l).take (k + 1) = (low7 x :: l).take k ++ [(x :: l).getD k 0] := by
        obtain ⟨j, rfl⟩ : ∃ j, k = j + 1 := ⟨k - 1, by omega⟩
        rw [List.take_succ_eq_append_getElem (by simp [hl.out]; omega)]
        simp [List.getD_eq_getElem?_getD, List.getElem?_eq_getElem (show j < l.length by rw [hl.out]; omega)]
      replace HX := Lib.hid HX
      have hbk := hbe k (by omega)
      generalize (x :: l).getD k 0 = y at *
      have hy := y.toNat_lt
      generalize hm : be ((low7 x :: l).take k) = m at *
      replace hm := Lib.hid hm
      go_wp2
      go_round
      case rel =>
        refine ⟨k + 1, by omega, by omega, by go_num, ?_⟩
        rw [HX.out, be_snoc, hm.out]
        go_num
      case measure => simp [intOf]; omega
    · have e : k = 8 := by omega
      subst e
      have ht : (low7 x :: l).take 8 = low7 x :: l := List.take_of_length_le (by simp [hl.out])
      rw [ht]
      clear ht
      have hbx : be (low7 x :: l) < 9223372036854775808 := by
        rw [be_cons, low7_nat, hl.out]
        have := be_lt l
        rw [hl.out] at this
        omega
      generalize be (low7 x :: l) = m at *
      by_cases h128 : x.toNat < 128
      · go_wp2
        go_ret
        refine ⟨?_, Below.refl _ _⟩
        rw [hh.out, if_pos h128]
        have e : ((m + 0 : Nat) : Int) - 9223372036854775808 = (m : Int) - 9223372036854775807 - 1 := by omega
        rw [e]
        rfl
      · go_wp2
        go_ret
        refine ⟨?_, Below.refl _ _⟩
        rw [hh.out, if_neg h128]
        have e : ((m + 9223372036854775808 : Nat) : Int) - 9223372036854775808 = (m : Int) := by omega
        rw [e]
        rfl
end Go.Proofs.Ytkmmaijkidkoiaa
