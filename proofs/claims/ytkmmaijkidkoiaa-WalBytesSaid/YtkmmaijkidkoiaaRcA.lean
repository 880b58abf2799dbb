/- The document's sum: bits of a number. -/
import Derived.Test.YtkmmaijkidkoiaaChkD
import Derived.Laws.MakeOwn
import Derived.Laws.NewBlocks
namespace Go.Proofs.Ytkmmaijkidkoiaa
open Go Go.RowKit

/-- The lowest k of 32 bits of a number, the rest 0. -/
def bitRow (x k : Nat) : List Value := (List.range 32).map fun i => iv (if i < k then (x / 2 ^ i % 2 : Nat) else 0)

theorem bitRow_len (x k : Nat) : (bitRow x k).length = 32 := by simp [bitRow]
theorem bitRow_get (x k i : Nat) (hi : i < 32) : (bitRow x k)[i]? = some (iv (if i < k then (x / 2 ^ i % 2 : Nat) else 0)) := by
  simp [bitRow, hi]
theorem bitRow_zero (x : Nat) : bitRow x 0 = List.replicate 32 (.int .i64 0) := by
  apply List.ext_getElem?
  intro i
  by_cases hi : i < 32
  · rw [bitRow_get x 0 i hi, List.getElem?_replicate, if_pos hi, if_neg (by omega)]; rfl
  · rw [List.getElem?_eq_none (by rw [bitRow_len]; omega), List.getElem?_eq_none (by rw [List.length_replicate]; omega)]
theorem bitRow_set (x k : Nat) (hk : k < 32) : (bitRow x k).toArray.setIfInBounds k (.int .i64 (((x / 2 ^ k : Nat) : Int) % 2)) = (bitRow x (k + 1)).toArray := by
  rw [List.setIfInBounds_toArray]
  congr 1
  apply List.ext_getElem?
  intro i
  by_cases hi : i < 32
  · rw [bitRow_get x (k + 1) i hi]
    by_cases hik : i = k
    · subst hik
      rw [List.getElem?_set_self (by rw [bitRow_len]; omega), if_pos (by omega)]
      rfl
    · rw [List.getElem?_set_ne (by omega), bitRow_get x k i hi]
      by_cases h : i < k
      · rw [if_pos h, if_pos (by omega)]
      · rw [if_neg h, if_neg (by omega)]
  · rw [List.getElem?_eq_none (by rw [List.length_set, bitRow_len]; omega), List.getElem?_eq_none (by rw [bitRow_len]; omega)]

theorem make_bits (w : World) : (Instr.makeSlice 103 (.int .i64 32) (.int .i64 32)).run Try.prog w = .ok (.slice (some ⟨w.heap.size, 0, none⟩) 32 32) (w.alloc (.cells (List.replicate 32 (.int .i64 0)).toArray 3)) := by
  obtain ⟨i, hi, hz, hs, hb⟩ : ∃ i, Try.prog.info? 3 = some i ∧ i.zero = some (.int .i64 0) ∧ i.size = 1 ∧ i.bytes = 8 := by
    have h : (Try.prog.info? 3).map (fun i => (i.zero, i.size, i.bytes)) = some (some (.int .i64 0), 1, 8) := by kernel_rfl
    obtain ⟨i, hi, hz⟩ := Option.map_eq_some_iff.1 h
    simp only [Prod.mk.injEq] at hz
    exact ⟨i, hi, hz.1, hz.2.1, hz.2.2⟩
  have h := run_makeSlice (P := Try.prog) w 103 3 i _ Try.underlying103 hi hz .i64 .i64 32 32 (by omega) (by omega) (by rw [hs]; decide) (by rw [hb]; decide) (by omega)
  rw [hs] at h
  have e : madeCells (Value.int IntKind.i64 0).cells ((32 : Int).toNat * 1) = (List.replicate 32 (Value.int .i64 0)).toArray := by
    apply Array.ext
    · simp [madeCells]
    · intro i h1 h2
      simp [madeCells, Value.cells, go_sem]
  rw [h, e]
  rfl

set_option maxRecDepth 100000 in
set_option maxHeartbeats 1000000 in
theorem bits_c (x : Nat) (w : World) (hx : x < 4294967296) :
   Calls Try.prog 79 #[.int .i64 (x : Int)] w fun e w' => e = .returned (.slice (some ⟨w.heap.size, 0, none⟩) 32 32) ∧ w' = w.alloc (.cells (bitRow x 32).toArray 3) := by
  have hmk := make_bits
  go_enter Try.func79, Try.ntmps79
  go_wp2
  go_loopw [0, 4] (fun n i wr => ∃ k : Nat, k ≤ 32 ∧ i = .int .i64 (k : Int) ∧ n = .int .i64 ((x / 2 ^ k : Nat) : Int) ∧ wr = w.alloc (.cells (bitRow x k).toArray 3)) (fun _ i _ => 32 - (intOf i).toNat)
  case atStart => exact ⟨0, by omega, rfl, by simp, by rw [bitRow_zero]; rfl⟩
  case round =>
    obtain ⟨k, hk, rfl, rfl, rfl⟩ := hrel
    by_cases hlt : k < 32
    · have hc : (w.alloc (.cells (bitRow x k).toArray 3)).cell? ⟨w.heap.size, k, none⟩ = some (.int .i64 0) := by
        rw [cell_of_row _ _ k _ _ _ (heap_alloc_new w _)]
        simp [bitRow_get x k k hlt, iv]
      have hset := Lib.hid (bitRow_set x k hlt)
      have hd : ((x / 2 ^ (k + 1) : Nat) : Int) = ((x / 2 ^ k : Nat) : Int) / 2 := by rw [Nat.pow_succ, ← Nat.div_div_eq_div_mul]; omega
      have hxk : x / 2 ^ k < 4294967296 := Nat.lt_of_le_of_lt (Nat.div_le_self _ _) hx
      replace hd := Lib.hid hd
      generalize x / 2 ^ k = y at *
      go_wp2
      go_roundw
      case rel =>
        refine ⟨k + 1, by omega, by go_num, ?_, ?_⟩
        · rw [hd.out]
        · rw [← hset.out, List.setIfInBounds_toArray]
      case measure => simp [intOf]; omega
    · have e : k = 32 := by omega
      subst e
      go_wp2
      go_ret
      exact ⟨rfl, rfl⟩
end Go.Proofs.Ytkmmaijkidkoiaa
