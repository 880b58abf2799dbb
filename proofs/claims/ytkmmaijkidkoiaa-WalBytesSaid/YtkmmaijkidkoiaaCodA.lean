/- The codec's lower half: the copy of a slice of bytes, numbers put behind bytes. -/
import Derived.Test.YtkmmaijkidkoiaaProg
import Derived.Test.YtkmmaijkidkoiaaBase
namespace Go.Proofs.Ytkmmaijkidkoiaa
open Go Go.RowKit

theorem siB : SlInfo Try.prog 29 5 (.int .u8 0) 1 1 := ⟨Try.underlying29, by kernel_rfl, rfl, by omega⟩
theorem siI : SlInfo Try.prog 103 3 (.int .i64 0) 1 8 := ⟨Try.underlying103, by kernel_rfl, rfl, by omega⟩
theorem bvs_one (l : List UInt8) : ∀ u ∈ l.map bv, u.oneCell' = true := by
  intro u hu
  obtain ⟨c, _, rfl⟩ := List.mem_map.1 hu
  rfl

/-- A byte that is reckoned. -/
theorem bv_of (n : Nat) (x : Int) (h : x = ((n % 256 : Nat) : Int)) : Value.int .u8 x = bv (UInt8.ofNat n) := by
  subst h
  simp [bv]
theorem or128 (q : Nat) : bits .or .u8 ((q : Int) % 256) 128 = (q : Int) % 128 + 128 := by
  have h := u8_or_nat (q % 256) 128 (by omega) (by omega)
  have hq : ∀ r : Fin 256, r.val ||| 128 = r.val % 128 + 128 := by decide +kernel
  have h2 := hq ⟨q % 256, by omega⟩
  simp only at h2
  rw [h2] at h
  have e : ((q % 256 : Nat) : Int) = (q : Int) % 256 := by omega
  rw [e] at h
  rw [show (128 : Int) = ((128 : Nat) : Int) from rfl, h]
  omega

set_option maxRecDepth 100000 in
set_option maxHeartbeats 400000 in
theorem clone_c (A : Option Addr) (n c : Nat) (bs : List UInt8) (w : World) (hb : Rd w A (bs.map bv)) (hn : bs.length = n) (hl : n ≤ 1099511627776) :
   Calls Try.prog 31 #[.slice A n c] w fun e w' => ∃ A' c', e = .returned (.slice A' n c') ∧ w'.ownsRow w.heap.size 5 1 (.slice A' n c') n (bs.map bv) ∧ Below w.heap.size w w' := by
  have HN := Lib.hid hn
  clear hn
  have heq := fun (w : World) => Lib.run_eql_slice_nil (P := Try.prog) w 29 5 A n c 0 0 Try.underlying29
  cases A with
  | none =>
    obtain rfl : bs = [] := by
      rcases hb with h | ⟨b, o, h, _⟩
      · simpa using h
      · cases h
    obtain rfl : n = 0 := by simpa using HN.out.symm
    go_enter Try.func31, Try.ntmps31
    go_wp2
    go_ret
    exact ⟨none, 0, rfl, World.ownsRow_nil _ _ _ _, Below.refl _ _⟩
  | some ad =>
    go_enter Try.func31, Try.ntmps31
    go_wp2_with (at_builtin; refine wl_append rfl _ _ 29 rfl _ _ 1 1 siB w.heap.size w ((Below.refl _ _).alloc (Nat.le_refl _) _) (Nat.le_refl _) (some ⟨w.heap.size, 0, none⟩) 0 0 [] rfl (own_new w w.heap.size 5 1 0 [] (Nat.le_refl _) (by simp) rfl) (some ad) n c (bs.map bv) rfl (by simpa using HN.out) (hb.ext ((Below.refl _ _).alloc (Nat.le_refl _) _)) (bvs_one bs) n _ (by omega) rfl (by omega) (by omega) ?_; intro A' c' w' hown' hB' hg' hl')
    go_ret
    exact ⟨A', c', rfl, hown', hB'⟩
end Go.Proofs.Ytkmmaijkidkoiaa
