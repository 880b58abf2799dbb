/- Keys as bytes: the document's reading of a tuple. -/
import Derived.Test.YtkmmaijkidkoiaaRfA
namespace Go.Proofs.Ytkmmaijkidkoiaa
open Go Go.RowKit

/-- What is read of a text already, and what is left. -/
def TextAt (b b' acc : List UInt8) : Bool → Prop
  | false => rdText b = ahead acc (rdText b')
  | true => rdText b = .ok (acc, b')

set_option maxRecDepth 100000 in
set_option maxHeartbeats 1000000 in
theorem rread_c (A : Option Addr) (n c : Nat) (bs : List UInt8) (w : World) (hb : Rd w A (bs.map bv)) (hn : bs.length = n) (hc : n ≤ c) (hl : n ≤ 1099511627) :
   Calls Try.prog 78 #[.slice A n c] w (ReadPost (rdParts bs) w) := by
  replace hn := Lib.hid hn
  go_enter Try.func78, Try.ntmps78
  go_wp2_with fail
  go_loopw [4, 5] (fun v i wr => ∃ (k : Nat) (acc : List Prt) (Ao : Option Addr) (N co : Nat), k ≤ n ∧ i = .int .i64 (k : Int) ∧ v = .slice Ao N co ∧ rdParts bs = aheadP acc (rdParts (bs.drop k)) ∧ N ≤ k ∧ acc.length = N ∧
        wr.ownsRow w.heap.size 108 3 (.slice Ao N co) N (acc.flatMap Prt.cells) ∧ Below w.heap.size w wr)
     (fun _ i _ => n - (intOf i).toNat)
  case atStart => exact ⟨0, [], none, 0, 0, by omega, rfl, rfl, (aheadP_nil _).symm, by omega, rfl, World.ownsRow_nil _ _ _ _, Below.refl _ _⟩
  case round =>
    obtain ⟨k, acc, Ao, N, co, hk, rfl, rfl, hrd, hNk, hN, hown, hB⟩ := hrel
    replace hrd := Lib.hid hrd
    replace hN := Lib.hid hN
    by_cases hkn : k < n
    · have hlt : k < bs.length := by rw [hn.out]; omega
      obtain ⟨b, o, rfl, hcell⟩ := (hb.ext hB).byte hlt
      have hdk : bs.drop k = bs.getD k 0 :: bs.drop (k + 1) := by rw [List.drop_eq_getElem_cons hlt]; simp [List.getD_eq_getElem?_getD, hlt]
      rw [hdk] at hrd
      clear hdk
      generalize hx : bs.getD k 0 = x at *
      clear hx
      by_cases hk1 : x = 1
      · subst hk1
        by_cases h8 : k + 9 ≤ n
        · have hcut := ((cutB (hb.ext hB) hn.out hc (k + 1)).take 8)
          rw [← List.map_take] at hcut
          have hl8 : ((bs.drop (k + 1)).take 8).length = 8 := by rw [List.length_take, List.length_drop, hn.out]; omega
          have hw : rdWord (bs.drop (k + 1)) = .ok ((be ((bs.drop (k + 1)).take 8) : Int) - 9223372036854775808, bs.drop (k + 9)) := by
            rw [rdWord, if_neg (by rw [List.length_drop, hn.out]; omega), List.drop_drop]
          replace hw := Lib.hid hw
          obtain ⟨y, l, hyl⟩ : ∃ y l, (bs.drop (k + 1)).take 8 = y :: l := by
            cases h : (bs.drop (k + 1)).take 8 with
            | nil => rw [h] at hl8; simp at hl8
            | cons y l => exact ⟨y, l, rfl⟩
          rw [hyl] at hcut hl8 hw
          clear hyl
          have hl7 : l.length = 7 := by simpa using hl8
          replace hl7 := Lib.hid hl7
          clear hl8
          have hs := fun (w : World) => run_sl_lohi (P := Try.prog) w 29 5 1 Try.underlying29 szB (some ⟨b, o, none⟩) n c (k + 1) (k + 9) ((k : Int) + 1) ((k : Int) + 1 + 8) (by omega) (by omega) (by omega) (by omega)
          have e8 : k + 9 - (k + 1) = 8 := by omega
          rw [e8] at hs
          clear e8
          go_wp2_with fail
          refine (value_c _ _ y l _ hcut hl7.out).mono ?_
          rintro e w2 ⟨rfl, hB2⟩
          generalize ((be (y :: l) : Int) - 9223372036854775808) = z at *
          go_wp2_with (at_builtin; refine wl_append rfl _ _ 104 rfl _ _ 3 32 siP w.heap.size w ((hB.trans (hB2.mono hB.size)).alloc (hB.trans (hB2.mono hB.size)).size _) (Nat.le_refl _) Ao N co _ rfl ((own_ext hown hB2).alloc _) (some ⟨w2.heap.size, 0, none⟩) 1 1 (Prt.cells ⟨false, z, []⟩) rfl rfl (Rd.newAt _ _ rfl [_, _, _] _) (prt_one _) (N + 1) ((acc ++ [(⟨false, z, []⟩ : Prt)]).flatMap Prt.cells) rfl (by rw [List.flatMap_append]; simp) (by omega) (by omega) ?_; intro A3 c3 w3 hown3 hB3 hg3 hl3)
          go_roundw
          case rel =>
            refine ⟨k + 9, acc ++ [(⟨false, z, []⟩ : Prt)], A3, N + 1, c3, by omega, by go_num, rfl, ?_, by omega, by simp [hN.out], hown3, hB3⟩
            rw [hrd.out, rdParts_word_ok hw.out, aheadP_cons]
          case measure => simp [intOf]; omega
        · have hw : rdWord (bs.drop (k + 1)) = .error 3 := by rw [rdWord, if_pos (by rw [List.length_drop, hn.out]; omega)]
          replace hw := Lib.hid hw
          go_wp2
          go_ret2
          refine ⟨hB, ?_⟩
          rw [hrd.out, rdParts_word, hw.out]
          rfl
      · have hn1 : ((x.toNat : Int) == 1) = false := beq_eq_false_iff_ne.2 (fun e => hk1 (UInt8.toNat_inj.1 (by show x.toNat = 1; omega)))
        by_cases hk2 : x = 2
        · subst hk2
          obtain ⟨wo, hwo⟩ : ∃ wo : World, wo = wr := ⟨_, rfl⟩
          rw [← hwo] at hB hown hcell
          rw [← hwo]
          clear hwo
          go_wp2_with fail
          go_loopw [5, 7, 8] (fun i s ov wi => ∃ (j : Nat) (acc' : List UInt8) (A' : Option Addr) (N' c' : Nat) (q : Bool), j ≤ n ∧ k + 1 ≤ j ∧ i = .int .i64 (j : Int) ∧ s = .slice A' N' c' ∧ ov = .bool q ∧ TextAt (bs.drop (k + 1)) (bs.drop j) acc' q ∧ N' ≤ j ∧ acc'.length = N' ∧
              wi.ownsRow wo.heap.size 5 1 (.slice A' N' c') N' (acc'.map bv) ∧ Below wo.heap.size wo wi)
            (fun i _ _ _ => n - (intOf i).toNat)
          all_goals first | (case atStart => exact ⟨k + 1, [], none, 0, 0, false, by omega, by omega, by go_num, rfl, rfl, (ahead_nil _).symm, by omega, rfl, World.ownsRow_nil _ _ _ _, Below.refl _ _⟩) | skip
          case round =>
            obtain ⟨j, acc', A', N', c', q, hjn, hkj, rfl, rfl, rfl, hta, hNj, hN', hown', hB'⟩ := hrel
            replace hta := Lib.hid hta
            replace hN' := Lib.hid hN'
            have hBw : Below w.heap.size w wr := hB.trans (hB'.mono hB.size)
            cases q
            · replace hta := Lib.hid (show rdText (bs.drop (k + 1)) = ahead acc' (rdText (bs.drop j)) from hta.out)
              by_cases hj : j < n
              · have hltj : j < bs.length := by rw [hn.out]; omega
                obtain ⟨b', o', hbo, hcellj⟩ := (hb.ext hBw).byte hltj
                injection hbo with hbo
                injection hbo with hb1 hb2
                subst hb1 hb2
                have hdk : bs.drop j = bs.getD j 0 :: bs.drop (j + 1) := by rw [List.drop_eq_getElem_cons hltj]; simp [List.getD_eq_getElem?_getD, hltj]
                rw [hdk] at hta
                clear hdk
                generalize hx : bs.getD j 0 = y at *
                clear hx
                by_cases hy0 : y = 0
                · subst hy0
                  by_cases hj1 : j + 1 < n
                  · have hltj1 : j + 1 < bs.length := by rw [hn.out]; omega
                    obtain ⟨b', o', hbo, hcell1⟩ := (hb.ext hBw).byte hltj1
                    injection hbo with hbo
                    injection hbo with hb1 hb2
                    subst hb1 hb2
                    have hdk : bs.drop (j + 1) = bs.getD (j + 1) 0 :: bs.drop (j + 2) := by rw [List.drop_eq_getElem_cons hltj1]; simp [List.getD_eq_getElem?_getD, hltj1]
                    rw [hdk] at hta
                    clear hdk
                    generalize hx : bs.getD (j + 1) 0 = z at *
                    clear hx
                    by_cases hz : z = 255
                    · subst hz
                      go_wp2_with (at_builtin; refine wl_append rfl _ _ 29 rfl _ _ 1 1 siB wo.heap.size wo (hB'.alloc hB'.size _) (Nat.le_refl _) A' N' c' _ rfl (hown'.alloc _) (some ⟨wr.heap.size, 0, none⟩) 1 1 [bv 0] rfl rfl (Rd.new1 wr _ _ _ rfl) (bvs_one [_]) (N' + 1) ((acc' ++ [0]).map bv) rfl (by simp) (by omega) (by omega) ?_; intro A3 c3 w3 hown3 hB3 hg3 hl3)
                      go_roundw
                      case rel =>
                        exact ⟨j + 2, acc' ++ [0], A3, N' + 1, c3, false, by omega, by omega, by go_num, rfl, rfl, by show rdText _ = _; rw [hta.out, ahead_255], by omega, by simp [hN'.out], hown3, hB3⟩
                      case measure => simp [intOf]; omega
                    · have hz2 : ((z.toNat : Int) == 255) = false := beq_eq_false_iff_ne.2 (fun e => hz (UInt8.toNat_inj.1 (by show z.toNat = 255; omega)))
                      have hz3 : ((z.toNat : Int) != 255) = true := by simp; intro e; exact hz (UInt8.toNat_inj.1 (by show z.toNat = 255; omega))
                      by_cases hz1 : z = 1
                      · subst hz1
                        go_wp2
                        go_roundw
                        case rel =>
                          exact ⟨j + 2, acc', A', N', c', true, by omega, by omega, by go_num, rfl, rfl, by show rdText _ = _; rw [hta.out, rdText_1]; simp [ahead, Except.map], by omega, hN'.out, hown', hB'⟩
                        case measure => simp [intOf]; omega
                      · have hz4 : ((z.toNat : Int) != 1) = true := by simp; intro e; exact hz1 (UInt8.toNat_inj.1 (by show z.toNat = 1; omega))
                        go_wp2
                        go_ret2
                        refine ⟨hBw, ?_⟩
                        rw [hrd.out, rdParts_text, hta.out, rdText_other hz hz1]
                        rfl
                  · replace hta := hta.out
                    have hnil : bs.drop (j + 1) = [] := List.drop_of_length_le (by rw [hn.out]; omega)
                    rw [hnil, rdText_zero] at hta
                    clear hnil
                    replace hta := Lib.hid hta
                    go_wp2
                    go_ret2
                    refine ⟨hBw, ?_⟩
                    rw [hrd.out, rdParts_text, hta.out]
                    rfl
                · have hy1 : ((y.toNat : Int) == 0) = false := beq_eq_false_iff_ne.2 (fun e => hy0 (UInt8.toNat_inj.1 (by simpa using e)))
                  have hy2 : ((y.toNat : Int) != 0) = true := by simp; intro e; exact hy0 (UInt8.toNat_inj.1 (by simpa using e))
                  go_wp2_with (at_builtin; refine wl_append rfl _ _ 29 rfl _ _ 1 1 siB wo.heap.size wo (hB'.alloc hB'.size _) (Nat.le_refl _) A' N' c' _ rfl (hown'.alloc _) (some ⟨wr.heap.size, 0, none⟩) 1 1 [bv y] rfl rfl (Rd.new wr [_] _) (bvs_one [_]) (N' + 1) ((acc' ++ [y]).map bv) rfl (by simp) (by omega) (by omega) ?_; intro A3 c3 w3 hown3 hB3 hg3 hl3)
                  go_roundw
                  case rel =>
                    exact ⟨j + 1, acc' ++ [y], A3, N' + 1, c3, false, by omega, by omega, by go_num, rfl, rfl, by show rdText _ = _; rw [hta.out, ahead_ne hy0], by omega, by simp [hN'.out], hown3, hB3⟩
                  case measure => simp [intOf]; omega
              · replace hta := hta.out
                have hnil : bs.drop j = [] := List.drop_of_length_le (by rw [hn.out]; omega)
                rw [hnil, rdText_nil] at hta
                clear hnil
                replace hta := Lib.hid hta
                go_wp2
                go_ret2
                refine ⟨hBw, ?_⟩
                rw [hrd.out, rdParts_text, hta.out]
                rfl
            · have hcv := conv_str (P := Try.prog) wr 29 9 5 Try.underlying29 Try.underlying5 Try.underlying9 A' N' c' acc' (Rd.of_own hown') hN'.out
              go_wp2_with (at_builtin; refine wl_append rfl _ _ 104 rfl _ _ 3 32 siP w.heap.size w (hBw.alloc hBw.size _) (Nat.le_refl _) Ao N co _ rfl ((own_ext hown hB').alloc _) (some ⟨wr.heap.size, 0, none⟩) 1 1 (Prt.cells ⟨true, 0, acc'⟩) rfl rfl (Rd.newAt _ _ rfl [_, _, _] _) (prt_one _) (N + 1) ((acc ++ [(⟨true, 0, acc'⟩ : Prt)]).flatMap Prt.cells) rfl (by rw [List.flatMap_append]; simp) (by omega) (by omega) ?_; intro A3 c3 w3 hown3 hB3 hg3 hl3)
              go_roundw
              case rel =>
                refine ⟨j, acc ++ [(⟨true, 0, acc'⟩ : Prt)], A3, N + 1, c3, by omega, rfl, rfl, ?_, by omega, by simp [hN.out], hown3, hB3⟩
                rw [hrd.out, rdParts_text_ok hta.out, aheadP_cons]
              case measure => simp [intOf]; omega
        · have hn2 : ((x.toNat : Int) != 2) = true := by simp; intro e; exact hk2 (UInt8.toNat_inj.1 (by show x.toNat = 2; omega))
          go_wp2
          go_ret2
          refine ⟨hB, ?_⟩
          rw [hrd.out, rdParts_other hk1 hk2]
          rfl
    · have e : k = n := by omega
      subst e
      go_wp2
      go_ret2
      refine ⟨hB, ?_⟩
      rw [hrd.out, List.drop_of_length_le (by rw [hn.out]; omega), rdParts_nil]
      have e : (acc ++ []).length = N := by simpa using hN.out
      simp only [aheadP, Except.map]
      rw [e]
      exact ⟨Ao, co, rfl, by simpa using hown⟩
end Go.Proofs.Ytkmmaijkidkoiaa
