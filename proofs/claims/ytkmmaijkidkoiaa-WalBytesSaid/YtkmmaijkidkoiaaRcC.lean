/- The document's sum. -/
import Derived.Test.YtkmmaijkidkoiaaRcB
import Derived.Laws.OwnMore
namespace Go.Proofs.Ytkmmaijkidkoiaa
open Go Go.RowKit

theorem one_bit (k : Nat) (hk : k < 32) : (((4294967295 / 2 ^ k : Nat) : Int) % 2) = 1 := by
  have := bit_mod 4294967295 k
  rw [show (4294967295 : Nat) = 2 ^ 32 - 1 from rfl, Nat.testBit_two_pow_sub_one] at this
  simp only [hk, decide_true, Bool.toNat_true] at this
  rw [show (4294967295 : Nat) = 2 ^ 32 - 1 from rfl]
  omega
theorem bitRow_setL (x k : Nat) (hk : k < 32) : (bitRow x k).set k (.int .i64 (((x / 2 ^ k : Nat) : Int) % 2)) = bitRow x (k + 1) := by
  have := bitRow_set x k hk
  rw [List.setIfInBounds_toArray] at this
  simpa using this

set_option maxRecDepth 100000 in
set_option maxHeartbeats 1000000 in
theorem rsum_c (A : Option Addr) (n c : Nat) (bs : List UInt8) (w : World) (hb : Rd w A (bs.map bv)) (hn : bs.length = n) (hl : n ≤ 1000000000) :
   Calls Try.prog 59 #[.slice A n c] w fun e w' => e = .returned (.int .i64 (crc bs : Int)) ∧ Below w.heap.size w w' := by
  replace hn := Lib.hid hn
  have hmk := make_bits
  go_enter Try.func59, Try.ntmps59
  go_wp2
  go_loopw [4] (fun i wr => ∃ k : Nat, k ≤ 32 ∧ i = .int .i64 (k : Int) ∧ wr.ownsRow w.heap.size 3 1 (.slice (some ⟨w.heap.size, 0, none⟩) 32 32) 32 (bitRow 4294967295 k) ∧ Below w.heap.size w wr) (fun i _ => 32 - (intOf i).toNat)
  case atStart => exact ⟨0, by omega, rfl, by rw [bitRow_zero]; exact own_new w _ _ 1 32 (List.replicate 32 (.int .i64 0)) (Nat.le_refl _) (by decide) (by simp), (Below.refl _ _).alloc (Nat.le_refl _) _⟩
  case round =>
    obtain ⟨k, hk, rfl, hown, hB⟩ := hrel
    by_cases hlt : k < 32
    · have hc : wr.cell? ⟨w.heap.size, k, none⟩ = some (.int .i64 0) := by
        rw [hown.cellAt k (by omega), bitRow_get _ k k hlt, if_neg (by omega)]; rfl
      have hf := hown.frozenAt k
      have hst := (hown.stored k (.int .i64 1)).1
      rw [show (1 : Int) = ((4294967295 / 2 ^ k : Nat) : Int) % 2 from (one_bit k hlt).symm, bitRow_setL _ k hlt, one_bit k hlt] at hst
      go_wp2
      go_roundw
      case rel => exact ⟨k + 1, by omega, by go_num, hst, hB.setCell (p := ⟨w.heap.size, k, none⟩) (Nat.le_refl _) _⟩
      case measure => simp [intOf]; omega
    · have e : k = 32 := by omega
      subst e
      clear hlt hk
      go_wp2_with fail
      refine (bits_c 3988292384 wr (by omega)).mono ?_
      rintro e w1 ⟨rfl, rfl⟩
      have hlt0 : w.heap.size < wr.heap.size := by
        have := (hown.lt w.heap.size rfl).2
        exact this
      have hP : Rd (wr.alloc (.cells (bitRow 3988292384 32).toArray 3)) (some ⟨wr.heap.size, 0, none⟩) (bitRow 3988292384 32) := Rd.new wr _ _
      have hown1 := hown.alloc (.cells (bitRow 3988292384 32).toArray 3)
      have hB1 := hB.alloc hB.size (.cells (bitRow 3988292384 32).toArray 3)
      generalize hW1 : wr.alloc (.cells (bitRow 3988292384 32).toArray 3) = W1 at *
      generalize hpb : wr.heap.size = pb at *
      clear hW1 hpb hown hB hmk
      go_wp2
      go_loopw [6] (fun i wr => ∃ k : Nat, k ≤ n ∧ i = .int .i64 (k : Int) ∧ wr.ownsRow w.heap.size 3 1 (.slice (some ⟨w.heap.size, 0, none⟩) 32 32) 32 (bitRow (crcFrom 4294967295 (bs.take k)) 32) ∧ Rd wr (some ⟨pb, 0, none⟩) (bitRow 3988292384 32) ∧ Below w.heap.size w wr) (fun i _ => n - (intOf i).toNat)
      all_goals first | (case atStart => exact ⟨0, by omega, rfl, hown1, hP, hB1⟩) | skip
      case round =>
        obtain ⟨k, hk, rfl, hown, hP, hB⟩ := hrel
        by_cases hlt : k < n
        · have hlt' : k < bs.length := by rw [hn.out]; omega
          obtain ⟨b, o, rfl, hcell⟩ := (hb.ext hB).byte hlt'
          have htk : crcFrom 4294967295 (bs.take (k + 1)) = crcByte (crcFrom 4294967295 (bs.take k)) (bs.getD k 0) := by
            rw [List.take_succ_eq_append_getElem hlt', crcFrom, List.foldl_append]
            simp [crcFrom, List.getD_eq_getElem?_getD, hlt']
          have hs0 := crcFrom_lt (bs.take k) (s := 4294967295) (by omega)
          generalize bs.getD k 0 = y at *
          generalize crcFrom 4294967295 (bs.take k) = s at *
          replace htk := Lib.hid htk
          have hy := y.toNat_lt
          go_wp2_with fail
          refine (bits_c y.toNat wr (by omega)).mono ?_
          rintro e w2 ⟨rfl, rfl⟩
          have hqne : w.heap.size < wr.heap.size := (hown.lt w.heap.size rfl).2
          have hpne : w.heap.size ≠ pb := by omega
          have hQ : Rd (wr.alloc (.cells (bitRow y.toNat 32).toArray 3)) (some ⟨wr.heap.size, 0, none⟩) (bitRow y.toNat 32) := Rd.new wr _ _
          have hown1 := hown.alloc (.cells (bitRow y.toNat 32).toArray 3)
          have hP1 : Rd (wr.alloc (.cells (bitRow y.toNat 32).toArray 3)) (some ⟨pb, 0, none⟩) (bitRow 3988292384 32) := hP.ext ((Below.refl _ _).alloc (Nat.le_refl _) _)
          have hB1 := hB.alloc hB.size (.cells (bitRow y.toNat 32).toArray 3)
          generalize hW1 : wr.alloc (.cells (bitRow y.toNat 32).toArray 3) = W2 at *
          generalize hqb : wr.heap.size = qb at *
          clear hW1 hqb hown hB hP
          rw [← mix_zero s (s ^^^ y.toNat)] at hown1
          go_wp2
          go_loopw [8] (fun i wr => ∃ j : Nat, j ≤ 32 ∧ i = .int .i64 (j : Int) ∧ wr.ownsRow w.heap.size 3 1 (.slice (some ⟨w.heap.size, 0, none⟩) 32 32) 32 (mix s (s ^^^ y.toNat) j) ∧ Rd wr (some ⟨pb, 0, none⟩) (bitRow 3988292384 32) ∧ Rd wr (some ⟨qb, 0, none⟩) (bitRow y.toNat 32) ∧ Below w.heap.size w wr) (fun i _ => 32 - (intOf i).toNat)
          all_goals first | (case atStart => exact ⟨0, by omega, rfl, hown1, hP1, hQ, hB1⟩) | skip
          case round =>
            obtain ⟨j, hj, rfl, hown, hP, hQ, hB⟩ := hrel
            by_cases hj32 : j < 32
            · have c1 : wr.cell? ⟨w.heap.size, j, none⟩ = some (.int .i64 ((s / 2 ^ j % 2 : Nat) : Int)) := by
                rw [hown.cellAt j (by omega), mix_get _ _ _ _ hj32, if_neg (by omega)]; rfl
              have c2 : wr.cell? ⟨qb, j, none⟩ = some (.int .i64 ((y.toNat / 2 ^ j % 2 : Nat) : Int)) := by
                obtain ⟨b', o', hbo, _, hc⟩ := hQ.at_ (by intro e; have := bitRow_len y.toNat 32; rw [e] at this; simp at this)
                injection hbo with hbo
                injection hbo with hb1 hb2
                subst hb1 hb2
                have := hc j _ (bitRow_get _ 32 j hj32)
                rw [if_pos hj32, Nat.zero_add] at this
                exact this
              have hf := hown.frozenAt j
              have hst := (hown.stored j (iv (((s ^^^ y.toNat) / 2 ^ j % 2 : Nat) : Int))).1
              rw [mix_set _ _ _ hj32, ← bit_xor] at hst
              have ha : s / 2 ^ j % 2 ≤ 1 := by omega
              have hbb : y.toNat / 2 ^ j % 2 ≤ 1 := by omega
              generalize s / 2 ^ j % 2 = a1 at *
              generalize y.toNat / 2 ^ j % 2 = b1 at *
              have hv : iv (((a1 + b1) % 2 : Nat) : Int) = .int .i64 (((a1 : Int) + (b1 : Int)) % 2) := by simp [iv]
              rw [hv] at hst
              go_wp2
              go_region
              all_goals go_wp2
              all_goals go_roundw
              all_goals first | (case rel => exact ⟨j + 1, by omega, by go_num, hst.drew, (hP.set_ne hpne).drew, (hQ.set_ne (by omega)).drew, (hB.setCell (p := ⟨w.heap.size, j, none⟩) (Nat.le_refl _) _).drew⟩) | skip
              all_goals first | (case measure => simp [intOf]; omega) | skip
            · have e : j = 32 := by omega
              subst e
              rw [mix_all] at hown
              have hz : s ^^^ y.toNat < 4294967296 := Nat.xor_lt_two_pow (n := 32) (by omega) (by omega)
              have hby : crcByte s y = crcBits 8 (s ^^^ y.toNat) := rfl
              replace hby := Lib.hid hby
              clear hj hj32 hown1 hP1 hB1 hQ
              generalize s ^^^ y.toNat = z at *
              obtain ⟨wq, hwq⟩ : ∃ wq : World, wq = wr := ⟨_, rfl⟩
              rw [← hwq] at hown hP hB
              rw [← hwq]
              clear hwq
              go_wp2
              go_loopw [9] (fun i wr => ∃ j : Nat, j ≤ 8 ∧ i = .int .i64 (j : Int) ∧ wr.ownsRow w.heap.size 3 1 (.slice (some ⟨w.heap.size, 0, none⟩) 32 32) 32 (bitRow (crcBits j z) 32) ∧ Rd wr (some ⟨pb, 0, none⟩) (bitRow 3988292384 32) ∧ Below w.heap.size w wr) (fun i _ => 8 - (intOf i).toNat)
              all_goals first | (case atStart => exact ⟨0, by omega, rfl, hown, hP, hB⟩) | skip
              case round =>
                clear hown hP hB
                obtain ⟨j, hj, rfl, hown, hP, hB⟩ := hrel
                by_cases hj8 : j < 8
                · have ht := crcBits_lt j hz
                  have htt : crcBits (j + 1) z = crcBit (crcBits j z) := rfl
                  replace htt := Lib.hid htt
                  generalize crcBits j z = t at *
                  have hd : t % 2 ≤ 1 := by omega
                  have c0 : wr.cell? ⟨w.heap.size, 0, none⟩ = some (.int .i64 ((t % 2 : Nat) : Int)) := by
                    rw [hown.cellAt 0 (by omega), bitRow_get _ _ 0 (by omega), if_pos (by omega), Nat.pow_zero, Nat.div_one]; rfl
                  have hstep := fun i => bit_step t i
                  replace hstep := Lib.hid hstep
                  have hlast := Lib.hid (bit_last t ht)
                  generalize hdd : t % 2 = d at *
                  clear hdd
                  rw [← mix_zero t (crcBit t)] at hown
                  obtain ⟨we, hwe⟩ : ∃ we : World, we = wr := ⟨_, rfl⟩
                  rw [← hwe] at hown hP hB c0
                  rw [← hwe]
                  clear hwe
                  rcases (show d = 0 ∨ d = 1 by omega) with rfl | rfl
                  all_goals
                    go_wp2
                    go_loopw [11] (fun i wr => ∃ i' : Nat, i' ≤ 31 ∧ i = .int .i64 (i' : Int) ∧ wr.ownsRow w.heap.size 3 1 (.slice (some ⟨w.heap.size, 0, none⟩) 32 32) 32 (mix t (crcBit t) i') ∧ Rd wr (some ⟨pb, 0, none⟩) (bitRow 3988292384 32) ∧ Below w.heap.size w wr) (fun i _ => 31 - (intOf i).toNat)
                    all_goals first | (case atStart => exact ⟨0, by omega, rfl, hown, hP, hB⟩) | skip
                    (case round =>
                      clear hown hP hB
                      obtain ⟨i, hi, rfl, hown, hP, hB⟩ := hrel
                      have cp : ∀ i, i < 32 → wr.cell? ⟨pb, i, none⟩ = some (.int .i64 ((3988292384 / 2 ^ i % 2 : Nat) : Int)) := by
                        intro i hi
                        obtain ⟨b', o', hbo, _, hc⟩ := hP.at_ (by intro e; have := bitRow_len 3988292384 32; rw [e] at this; simp at this)
                        injection hbo with hbo
                        injection hbo with hb1 hb2
                        subst hb1 hb2
                        have := hc i _ (bitRow_get _ 32 i hi)
                        rw [if_pos hi, Nat.zero_add] at this
                        exact this
                      have hf := fun i => hown.frozenAt i
                      by_cases hi31 : i < 31
                      · have c1 : wr.cell? ⟨w.heap.size, i + 1, none⟩ = some (.int .i64 ((t / 2 ^ (i + 1) % 2 : Nat) : Int)) := by
                          rw [hown.cellAt (i + 1) (by omega), mix_get _ _ _ _ (by omega), if_neg (by omega)]; rfl
                        have c2 := cp i (by omega)
                        have hf1 := hf i
                        have hst := (hown.stored i (iv ((crcBit t / 2 ^ i % 2 : Nat) : Int))).1
                        rw [mix_set _ _ _ (by omega), ← hstep.out i] at hst
                        have ha : t / 2 ^ (i + 1) % 2 ≤ 1 := by omega
                        have hbb : 3988292384 / 2 ^ i % 2 ≤ 1 := by omega
                        clear cp hf
                        generalize t / 2 ^ (i + 1) % 2 = a1 at *
                        generalize 3988292384 / 2 ^ i % 2 = b1 at *
                        simp only [Nat.zero_mul, Nat.one_mul, Nat.add_zero] at hst
                        have hv : ∀ m : Nat, iv ((m % 2 : Nat) : Int) = .int .i64 ((m : Int) % 2) := by intro m; simp [iv]
                        rw [hv] at hst
                        try simp only [Int.natCast_add] at hst
                        have cs : wr.cell? ⟨w.heap.size, i, none⟩ = some (.int .i64 ((t / 2 ^ i % 2 : Nat) : Int)) := by
                          rw [hown.cellAt i (by omega), mix_get _ _ _ _ (by omega), if_neg (by omega)]; rfl
                        go_wp2
                        go_region
                        all_goals go_wp2
                        all_goals go_roundw
                        all_goals first | (case rel => exact ⟨i + 1, by omega, by go_num, hst.drew, (hP.set_ne hpne).drew, (hB.setCell (p := ⟨w.heap.size, i, none⟩) (Nat.le_refl _) _).drew⟩) | skip
                        all_goals first | (case measure => simp [intOf]; omega) | skip
                      · have e : i = 31 := by omega
                        subst e
                        have c2 : wr.cell? ⟨pb, 31, none⟩ = some (.int .i64 1) := cp 31 (by omega)
                        have hf1 := hf 31
                        have cs : wr.cell? ⟨w.heap.size, 31, none⟩ = some (.int .i64 ((t / 2 ^ 31 % 2 : Nat) : Int)) := by
                          rw [hown.cellAt 31 (by omega), mix_get _ _ _ _ (by omega), if_neg (by omega)]; rfl
                        have hst := (hown.stored 31 (iv ((crcBit t / 2 ^ 31 % 2 : Nat) : Int))).1
                        rw [mix_set _ _ _ (by omega), mix_all, ← hlast.out, ← htt.out] at hst
                        clear cp hf
                        go_wp2
                        all_goals go_roundw
                        all_goals first | (case rel => exact ⟨j + 1, by omega, by go_num, hst, hP.set_ne hpne, hB.setCell (p := ⟨w.heap.size, 31, none⟩) (Nat.le_refl _) _⟩) | skip
                        all_goals first | (case measure => simp [intOf]; omega) | skip)
                · have e : j = 8 := by omega
                  subst e
                  rw [← hby.out, ← htk.out] at hown
                  go_wp2
                  go_roundw
                  case rel => exact ⟨k + 1, by omega, by go_num, hown, hP, hB⟩
                  case measure => simp [intOf]; omega
        · have hfin : crcFrom 4294967295 (bs.take k) = crcFrom 4294967295 bs := by rw [List.take_of_length_le (by rw [hn.out]; omega)]
          rw [hfin] at hown
          have hs0 := crcFrom_lt bs (s := 4294967295) (by omega)
          have hcr : crc bs = 4294967295 - crcFrom 4294967295 bs := rfl
          replace hcr := Lib.hid hcr
          clear hfin
          generalize crcFrom 4294967295 bs = s at *
          go_wp2
          go_loopw [12, 13, 14] (fun m d i wr' => ∃ j : Nat, j ≤ 32 ∧ i = .int .i64 (j : Int) ∧ d = .int .i64 ((2 ^ j : Nat) : Int) ∧ m = .int .i64 ((2 ^ j - 1 - s % 2 ^ j : Nat) : Int) ∧ wr' = wr) (fun _ _ i _ => 32 - (intOf i).toNat)
          all_goals first | (case atStart => exact ⟨0, by omega, rfl, rfl, by simp [Nat.mod_one], rfl⟩) | skip
          case round =>
            obtain ⟨j, hj, rfl, rfl, rfl, rfl⟩ := hrel
            by_cases hj32 : j < 32
            · have c1 : wr.cell? ⟨w.heap.size, j, none⟩ = some (.int .i64 ((s / 2 ^ j % 2 : Nat) : Int)) := by
                rw [hown.cellAt j (by omega), bitRow_get _ _ j hj32, if_pos hj32]; rfl
              have hp := Nat.mod_pow_succ (x := s) (b := 2) (k := j)
              have hlt2 : s % 2 ^ j < 2 ^ j := Nat.mod_lt _ (Nat.pow_pos (by omega))
              have h32 : 2 ^ j ≤ 2147483648 := Nat.pow_le_pow_right (n := 2) (by omega) (show j ≤ 31 by omega)
              have hps : 2 ^ (j + 1) = 2 ^ j * 2 := Nat.pow_succ ..
              replace hps := Lib.hid hps
              replace hp := Lib.hid hp
              have hbit : s / 2 ^ j % 2 ≤ 1 := by omega
              generalize s / 2 ^ j % 2 = b1 at *
              generalize hm2 : s % 2 ^ (j + 1) = m2 at *
              replace hm2 := Lib.hid hm2
              generalize s % 2 ^ j = m1 at *
              generalize hp2 : 2 ^ (j + 1) = p2 at *
              replace hp2 := Lib.hid hp2
              generalize 2 ^ j = p1 at *
              rcases (show b1 = 0 ∨ b1 = 1 by omega) with rfl | rfl
              all_goals
                go_wp2
                go_roundw
                (case rel =>
                  have h1 := hp.out
                  have h2 := hps.out
                  refine ⟨j + 1, by omega, by go_num, ?_, ?_, trivial⟩
                  · rw [hp2.out]
                    have e : ((p2 : Nat) : Int) = 2 * (p1 : Int) := by omega
                    rw [e]
                  · rw [hp2.out, hm2.out]
                    first
                      | (have e : ((p1 - 1 - m1 : Nat) : Int) + (p1 : Int) = ((p2 - 1 - m2 : Nat) : Int) := by omega
                         rw [e])
                      | (have e : ((p1 - 1 - m1 : Nat) : Int) = ((p2 - 1 - m2 : Nat) : Int) := by omega
                         rw [e]))
                (case measure => simp [intOf]; omega)
            · have e : j = 32 := by omega
              subst e
              have hm : s % 2 ^ 32 = s := Nat.mod_eq_of_lt (by omega)
              rw [hm]
              go_wp2
              go_ret
              exact ⟨by rw [hcr.out]; rfl, hB⟩
end Go.Proofs.Ytkmmaijkidkoiaa
