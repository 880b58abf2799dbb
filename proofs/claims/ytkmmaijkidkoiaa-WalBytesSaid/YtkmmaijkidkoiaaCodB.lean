/- vary.Put: numbers put behind bytes. -/
import Derived.Test.YtkmmaijkidkoiaaCodA
import Derived.Test.YtkmmaijkidkoiaaPure
namespace Go.Proofs.Ytkmmaijkidkoiaa
open Go Go.RowKit

set_option maxRecDepth 100000 in
set_option maxHeartbeats 400000 in
theorem vput_c (A L : Option Addr) (n c m cl : Nat) (bs : List UInt8) (ns : List Int) (w : World) (hb : Rd w A (bs.map bv)) (hn : bs.length = n) (hl : n + 10 * m ≤ 1099511627776) (hL : Rd w L (ns.map iv)) (hm : ns.length = m)
    (hr : ∀ x ∈ ns, x < 9223372036854775808) :
   Calls Try.prog 53 #[.slice A n c, .slice L m cl] w fun e w' => ∃ A' N c', e = .returned (.slice A' N c') ∧ N = (bs ++ ns.flatMap putI).length ∧ w'.ownsRow w.heap.size 5 1 (.slice A' N c') N ((bs ++ ns.flatMap putI).map bv) ∧ Below w.heap.size w w' := by
  have HN := Lib.hid hn
  have HM := Lib.hid hm
  clear hn hm
  go_enter Try.func53, Try.ntmps53
  go_wp2_with (go_at_call 31; refine (clone_c A n c bs _ hb HN.out (by omega)).mono ?_; rintro e w1 ⟨A1, c1, rfl, hown1, hB1⟩)
  go_loopw [0, 11] (fun b i wr => ∃ k A' N c', k ≤ m ∧ i = .int .i64 (k : Int) ∧ b = .slice A' N c' ∧ N = (bs ++ (ns.take k).flatMap putI).length ∧ wr.ownsRow w.heap.size 5 1 (.slice A' N c') N ((bs ++ (ns.take k).flatMap putI).map bv) ∧ Below w.heap.size w wr)
     (fun _ i _ => m - (intOf i).toNat)
  case atStart => exact ⟨0, A1, n, c1, by omega, rfl, rfl, by simp [HN.out], by simpa using hown1, hB1⟩
  case round =>
    obtain ⟨k, A', N, c', hk, rfl, rfl, hN, hown, hB⟩ := hrel
    have HN' := Lib.hid hN
    clear hN
    by_cases hlt : k < m
    · obtain ⟨b, o, rfl, hcell⟩ := (hL.ext hB).int (k := k) (by rw [HM.out]; exact hlt)
      obtain ⟨x, hx⟩ : ∃ x, x = ns.getD k 0 := ⟨_, rfl⟩
      rw [← hx] at hcell
      have HX := Lib.hid hx
      clear hx
      obtain ⟨wo, hwo⟩ : ∃ wo : World, wo = wr := ⟨_, rfl⟩
      have hxr : x < 9223372036854775808 := by
        rw [HX.out]
        exact hr _ (by rw [List.getD_eq_getElem?_getD, List.getElem?_eq_getElem (by rw [HM.out]; exact hlt)]; simp)
      have hfl := flat_len (ns.take k) (fun y hy => hr y (List.mem_of_mem_take hy))
      have hfl' : (List.take k ns).length ≤ k := List.length_take_le _ _
      have hlen : (bs ++ (ns.take k).flatMap putI).length ≤ n + 10 * k := by rw [List.length_append, HN.out]; omega
      have hp10 := putN_len10 x.toNat (by omega)
      go_wp2
      all_goals
        subst hwo
        go_loopw [0, 6] (fun b j wi => ∃ (q : Nat) (A2 : Option Addr) (N2 c2 : Nat) (acc : List UInt8), j = .int .i64 (q : Int) ∧ b = .slice A2 N2 c2 ∧ q < 9223372036854775808 ∧ acc ++ putN q = putI x ∧ N2 = (bs ++ (ns.take k).flatMap putI ++ acc).length ∧ wi.ownsRow w.heap.size 5 1 (.slice A2 N2 c2) N2 ((bs ++ (ns.take k).flatMap putI ++ acc).map bv) ∧ Below w.heap.size w wi)
          (fun _ j _ => (intOf j).toNat)
        case atStart => exact ⟨x.toNat, A', N, c', [], congrArg (Value.int .i64) (by omega), rfl, by omega, rfl, by simpa using HN'.out, by simpa using hown, hB⟩
        case round =>
          obtain ⟨q, A2, N2, c2, acc, rfl, rfl, hqb, hacc, hN2, hown2, hB2⟩ := hrel
          have hal : acc.length + (putN q).length ≤ 10 := by
            have := congrArg List.length hacc
            simp only [List.length_append, putI] at this
            omega
          have hN2' : N2 ≤ n + 10 * k + acc.length := by rw [hN2, List.length_append]; omega
          have HA := Lib.hid hacc
          have HN2 := Lib.hid hN2
          clear hacc hN2
          by_cases hq : q < 128
          · rw [putN_lt hq] at hal
            simp only [List.length_cons, List.length_nil] at hal
            go_wp2_with (at_builtin; refine wl_append rfl _ _ 29 rfl _ _ 1 1 siB w.heap.size w (hB2.alloc (by have := hB2.size; omega) _) (Nat.le_refl _) A2 N2 c2 _ rfl (hown2.alloc _) (some ⟨wr.heap.size, 0, none⟩) 1 1 _ rfl rfl (Rd.new1 _ _ _ _ (bv_of q q (by omega))) (bvs_one [_]) (N2 + 1) _ rfl rfl (by omega) (by omega) ?_; intro A3 c3 w3 hown3 hB3 hg3 hl3)
            go_roundw
            case rel =>
              have hacc := HA.out
              rw [putN_lt hq] at hacc
              have e : bs ++ (ns.take k).flatMap putI ++ acc ++ [UInt8.ofNat q] = bs ++ (ns.take (k + 1)).flatMap putI := by
                rw [take_flat putI ns k 0 (by rw [HM.out]; exact hlt), ← HX.out, ← hacc]
                simp
              refine ⟨k + 1, A3, N2 + 1, c3, by omega, by go_num, rfl, ?_, ?_, hB3⟩
              · rw [← e, List.length_append, ← HN2.out]; rfl
              · rw [← e, List.map_append (l₂ := [UInt8.ofNat q])]; exact hown3
            case measure => simp [intOf]; omega
          · rw [putN_ge hq] at hal
            simp only [List.length_cons] at hal
            have hor := or128 q
            go_wp2_with (at_builtin; refine wl_append rfl _ _ 29 rfl _ _ 1 1 siB w.heap.size w (hB2.alloc (by have := hB2.size; omega) _) (Nat.le_refl _) A2 N2 c2 _ rfl (hown2.alloc _) (some ⟨wr.heap.size, 0, none⟩) 1 1 _ rfl rfl (Rd.new1 _ _ _ _ (bv_of (q % 128 + 128) _ (by omega))) (bvs_one [_]) (N2 + 1) _ rfl rfl (by omega) (by omega) ?_; intro A3 c3 w3 hown3 hB3 hg3 hl3)
            go_roundw
            case rel =>
              have hacc := HA.out
              rw [putN_ge hq] at hacc
              refine ⟨q / 128, A3, N2 + 1, c3, acc ++ [UInt8.ofNat (q % 128 + 128)], by go_num, rfl, by omega, by rw [← hacc]; simp, ?_, ?_, hB3⟩
              · rw [HN2.out]; simp; omega
              · rw [← List.append_assoc, List.map_append (l₂ := [_])]; exact hown3
            case measure => simp [intOf]; omega
    · go_wp2
      go_ret
      have e : k = m := by omega
      subst e
      rw [List.take_of_length_le (by rw [HM.out]; omega)] at HN' hown
      exact ⟨A', N, c', rfl, HN'.out, hown, hB⟩
end Go.Proofs.Ytkmmaijkidkoiaa
