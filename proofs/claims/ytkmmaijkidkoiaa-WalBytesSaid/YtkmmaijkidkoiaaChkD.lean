/- A frame's numbers: the document's four. -/
import Derived.Test.YtkmmaijkidkoiaaChkC
namespace Go.Proofs.Ytkmmaijkidkoiaa
open Go Go.RowKit

set_option maxRecDepth 100000 in
set_option maxHeartbeats 1000000 in
theorem four_c (x : Nat) (w : World) (hx : x < 4294967296) :
   Calls Try.prog 58 #[.int .i64 (x : Int)] w fun e w' => ∃ A c, e = .returned (.slice A 4 c) ∧ w'.ownsRow w.heap.size 5 1 (.slice A 4 c) 4 ((le4 x).map bv) ∧ Below w.heap.size w w' := by
  rw [le4_bv x hx]
  go_enter Try.func58, Try.ntmps58
  go_wp2
  go_ret
  refine ⟨some ⟨w.heap.size, 0, none⟩, 4, rfl, ?_, (Below.refl _ _).alloc (Nat.le_refl _) _⟩
  have e4 : (x : Int) / 16777216 % 256 = (x : Int) / 16777216 := by omega
  rw [e4]
  exact own_new w w.heap.size _ 1 4 [_, _, _, _] (Nat.le_refl _) (by decide) rfl
end Go.Proofs.Ytkmmaijkidkoiaa
