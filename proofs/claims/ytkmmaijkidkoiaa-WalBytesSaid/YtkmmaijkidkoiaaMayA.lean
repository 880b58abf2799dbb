/- May it be written: spans and numbers. -/
import Derived.Test.YtkmmaijkidkoiaaRfC
import Derived.Test.YtkmmaijkidkoiaaCodE
namespace Go.Proofs.Ytkmmaijkidkoiaa
open Go Go.RowKit

set_option maxRecDepth 100000 in
set_option maxHeartbeats 400000 in
theorem in_c (n lo hi : Int) (w : World) : Calls Try.prog 73 #[.int .i64 n, .int .i64 lo, .int .i64 hi] w fun e w' => e = .returned (.bool (decide (lo ≤ n ∧ n ≤ hi))) ∧ Below w.heap.size w w' := by
  by_cases h1 : lo ≤ n
  · by_cases h2 : n ≤ hi
    · have e : decide (lo ≤ n ∧ n ≤ hi) = true := by simp; omega
      rw [e]
      go_enter Try.func73, Try.ntmps73
      go_wp2
      go_ret
      exact ⟨rfl, Below.refl _ _⟩
    · have e : decide (lo ≤ n ∧ n ≤ hi) = false := by simp; omega
      rw [e]
      go_enter Try.func73, Try.ntmps73
      go_wp2
      go_ret
      exact ⟨rfl, Below.refl _ _⟩
  · have e : decide (lo ≤ n ∧ n ≤ hi) = false := by simp; omega
    rw [e]
    go_enter Try.func73, Try.ntmps73
    go_wp2
    go_ret
    exact ⟨rfl, Below.refl _ _⟩

/-- A span of valid time that may stand. -/
def spanOk (f t : Int) : Bool := decide (0 ≤ f ∧ f < t ∧ t ≤ 1099511627776)

set_option maxRecDepth 100000 in
set_option maxHeartbeats 400000 in
theorem smay_c (f t : Int) (w : World) : Calls Try.prog 74 #[.agg #[.int .i64 f, .int .i64 t]] w fun e w' => e = .returned (.bool (spanOk f t)) ∧ Below w.heap.size w w' := by
  by_cases h1 : 0 ≤ f
  · by_cases h2 : f < t
    · by_cases h3 : t ≤ 1099511627776
      · have e : spanOk f t = true := by simp [spanOk]; omega
        rw [e]
        go_enter Try.func74, Try.ntmps74
        go_wp2
        go_ret
        exact ⟨rfl, (Below.refl _ _).alloc (Nat.le_refl _) _⟩
      · have e : spanOk f t = false := by simp [spanOk]; omega
        rw [e]
        go_enter Try.func74, Try.ntmps74
        go_wp2
        go_ret
        exact ⟨rfl, (Below.refl _ _).alloc (Nat.le_refl _) _⟩
    · have e : spanOk f t = false := by simp [spanOk]; omega
      rw [e]
      go_enter Try.func74, Try.ntmps74
      go_wp2
      go_ret
      exact ⟨rfl, (Below.refl _ _).alloc (Nat.le_refl _) _⟩
  · have e : spanOk f t = false := by simp [spanOk]; omega
    rw [e]
    go_enter Try.func74, Try.ntmps74
    go_wp2
    go_ret
    exact ⟨rfl, (Below.refl _ _).alloc (Nat.le_refl _) _⟩

set_option maxRecDepth 100000 in
set_option maxHeartbeats 400000 in
theorem rsmay_c (f t : Int) (w : World) : Calls Try.prog 57 #[.agg #[.int .i64 f, .int .i64 t]] w fun e w' => e = .returned (.bool (spanOk f t)) ∧ Below w.heap.size w w' := by
  by_cases h1 : 0 ≤ f
  · by_cases h2 : f < t
    · by_cases h3 : t ≤ 1099511627776
      · have e : spanOk f t = true := by simp [spanOk]; omega
        rw [e]
        go_enter Try.func57, Try.ntmps57
        go_wp2
        go_ret
        exact ⟨rfl, (Below.refl _ _).alloc (Nat.le_refl _) _⟩
      · have e : spanOk f t = false := by simp [spanOk]; omega
        rw [e]
        go_enter Try.func57, Try.ntmps57
        go_wp2
        go_ret
        exact ⟨rfl, (Below.refl _ _).alloc (Nat.le_refl _) _⟩
    · have e : spanOk f t = false := by simp [spanOk]; omega
      rw [e]
      go_enter Try.func57, Try.ntmps57
      go_wp2
      go_ret
      exact ⟨rfl, (Below.refl _ _).alloc (Nat.le_refl _) _⟩
  · have e : spanOk f t = false := by simp [spanOk]; omega
    rw [e]
    go_enter Try.func57, Try.ntmps57
    go_wp2
    go_ret
    exact ⟨rfl, (Below.refl _ _).alloc (Nat.le_refl _) _⟩
end Go.Proofs.Ytkmmaijkidkoiaa
