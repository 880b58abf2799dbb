/- A frame's numbers: the code's check.put. -/
import Derived.Test.YtkmmaijkidkoiaaLstA
namespace Go.Proofs.Ytkmmaijkidkoiaa
open Go Go.RowKit

/-- Four bytes of a number, the least first. -/
def le4 (n : Nat) : List UInt8 := [UInt8.ofNat n, UInt8.ofNat (n / 256), UInt8.ofNat (n / 65536), UInt8.ofNat (n / 16777216)]
theorem le4_bv (x : Nat) (hx : x < 4294967296) : (le4 x).map bv = [.int .u8 ((x : Int) % 256), .int .u8 ((x : Int) / 256 % 256), .int .u8 ((x : Int) / 65536 % 256), .int .u8 ((x : Int) / 16777216)] := by
  have e : (((x / 16777216 : Nat) : Int)) % 256 = (x : Int) / 16777216 := by omega
  simp [le4, bv]
  omega

set_option maxRecDepth 100000 in
set_option maxHeartbeats 1000000 in
theorem cput_c (w0 : World) (A : Option Addr) (n c : Nat) (bs : List UInt8) (x : Nat) (w : World) (hB : Below w0.heap.size w0 w) (hn : bs.length = n) (hl : n ≤ 1000000000) (hx : x < 4294967296) (hown : w.ownsRow w0.heap.size 5 1 (.slice A n c) n (bs.map bv)) :
   Calls Try.prog 50 #[.slice A n c, .int .i64 (x : Int)] w fun e w' => ∃ A' c', e = .returned (.slice A' (n + 4) c') ∧ w'.ownsRow w0.heap.size 5 1 (.slice A' (n + 4) c') (n + 4) ((bs ++ le4 x).map bv) ∧ Below w0.heap.size w0 w' := by
  replace hn := Lib.hid hn
  have h4 := Lib.hid (le4_bv x hx)
  go_enter Try.func50, Try.ntmps50
  go_wp2_with (at_builtin; refine wl_append rfl _ _ 29 rfl _ _ 1 1 siB w0.heap.size w0 (hB.alloc hB.size _) (Nat.le_refl _) A n c _ rfl (hown.alloc _) (some ⟨w.heap.size, 0, none⟩) 4 4 [_, _, _, _] rfl rfl (Rd.newAt _ _ rfl [_, _, _, _] _) (by rw [← h4.out]; exact bvs_one _) (n + 4) ((bs ++ le4 x).map bv) rfl (by rw [List.map_append, h4.out]) (by omega) (by omega) ?_; intro A3 c3 w3 hown3 hB3 hg3 hl3)
  go_ret
  exact ⟨A3, c3, rfl, hown3, hB3⟩
end Go.Proofs.Ytkmmaijkidkoiaa
