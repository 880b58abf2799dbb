/- May a group be written: the code's and the document's answer. -/
import Derived.Test.YtkmmaijkidkoiaaMayD
namespace Go.Proofs.Ytkmmaijkidkoiaa
open Go Go.RowKit

/-- A group that may be written. -/
def okG (ep : Int) (l : List Ver) : Bool := decide (1 ≤ ep ∧ ep ≤ 10000) && !l.any (oddv ep)

set_option maxRecDepth 100000 in
set_option maxHeartbeats 1000000 in
theorem walmay_c (ep : Int) (A : Option Addr) (n c : Nat) (l : List Ver) (w : World) (hA : Rd w A (l.flatMap Ver.cells)) (hn : l.length = n) (hnb : n ≤ 1000000) (hk : ∀ v ∈ l, v.key.size ≤ 1000000) :
   Calls Try.prog 17 #[.agg #[.int .i64 ep, .slice A n c]] w fun e w' => e = .returned (.bool (okG ep l)) ∧ Below w.heap.size w w' := by
  have hc := fun b w hA hg => cfn_c b ep A n c l w hA hn hnb hk hg
  replace hc := Lib.hid hc
  have hres : okG ep l = (decide (1 ≤ ep ∧ ep ≤ 10000) && !l.any (oddv ep)) := rfl
  replace hres := Lib.hid hres
  clear hn hk
  go_enter Try.func17, Try.ntmps17
  by_cases h1 : 1 ≤ ep
  · by_cases h2 : ep ≤ 10000
    · have hd : decide (1 ≤ ep ∧ ep ≤ 10000) = true := by simp; omega
      rw [hd] at hres
      clear hd
      go_wp2_with fail
      refine (hc.out _ _ (hA.ext ((Below.refl _ _).alloc (Nat.le_refl _) _)) (by go_simp)).mono ?_
      rintro e w1 ⟨rfl, hB1⟩
      have hW : Below w.heap.size w w1 := ((Below.refl _ _).alloc (Nat.le_refl _) _).trans (hB1.mono (by simp))
      generalize l.any (oddv ep) = q at *
      cases q
      · go_wp2
        go_ret
        exact ⟨by rw [hres.out]; simp, hW⟩
      · go_wp2
        go_ret
        exact ⟨by rw [hres.out]; simp, hW⟩
    · have hd : decide (1 ≤ ep ∧ ep ≤ 10000) = false := by simp; omega
      rw [hd] at hres
      clear hd
      go_wp2
      go_ret
      exact ⟨by rw [hres.out]; simp, (Below.refl _ _).alloc (Nat.le_refl _) _⟩
  · have hd : decide (1 ≤ ep ∧ ep ≤ 10000) = false := by simp; omega
    rw [hd] at hres
    clear hd
    go_wp2
    go_ret
    exact ⟨by rw [hres.out]; simp, (Below.refl _ _).alloc (Nat.le_refl _) _⟩

set_option maxRecDepth 100000 in
set_option maxHeartbeats 1000000 in
theorem refgmay_c (ep : Int) (A : Option Addr) (n c : Nat) (l : List Ver) (w : World) (hA : Rd w A (l.flatMap Ver.cells)) (hn : l.length = n) (hnb : n ≤ 1000000) (hk : ∀ v ∈ l, v.key.size ≤ 1000000) :
   Calls Try.prog 9 #[.agg #[.int .i64 ep, .slice A n c]] w fun e w' => e = .returned (.bool (okG ep l)) ∧ Below w.heap.size w w' := by
  have hres : okG ep l = (decide (1 ≤ ep ∧ ep ≤ 10000) && !l.any (oddv ep)) := rfl
  replace hres := Lib.hid hres
  replace hn := Lib.hid hn
  replace hk := Lib.hid hk
  go_enter Try.func9, Try.ntmps9
  go_wp2_with fail
  go_loopw [3] (fun i wr => ∃ k : Nat, k ≤ n ∧ i = .int .i64 (k : Int) ∧ (l.take k).any (oddv ep) = false ∧ Below (w.heap.size + 1) (w.alloc (.cells #[.int .i64 ep, .slice A n c] 32)) wr) (fun i _ => n - (intOf i).toNat)
  case atStart => exact ⟨0, by omega, rfl, rfl, Below.refl _ _⟩
  case round =>
    obtain ⟨k, hkn, rfl, hno, hB⟩ := hrel
    replace hno := Lib.hid hno
    have hW : Below w.heap.size w wr := ((Below.refl _ _).alloc (Nat.le_refl _) _).trans (hB.mono (by omega))
    have g0 := bel_cell hB (show w.heap.size < w.heap.size + 1 by omega) (o := 0) (u := .int .i64 ep) (by go_simp)
    have g1 := bel_cell hB (show w.heap.size < w.heap.size + 1 by omega) (o := 1) (u := .slice A n c) (by go_simp)
    by_cases hlt : k < n
    · have hlt' : k < l.length := by rw [hn.out]; exact hlt
      obtain ⟨b', o, rfl, c0, c1, c2, c3, c4, c5, c6, c7⟩ := (hA.ext hW).ver hlt'
      have hkv : (l.getD k ver0).key.size ≤ 1000000 := hk.out _ (by rw [List.getD_eq_getElem?_getD, List.getElem?_eq_getElem hlt']; simp)
      have htk : l.take (k + 1) = l.take k ++ [l.getD k ver0] := by rw [List.take_succ_eq_append_getElem hlt', List.getD_eq_getElem?_getD, List.getElem?_eq_getElem hlt']; simp
      have hmem : l.getD k ver0 ∈ l := by rw [List.getD_eq_getElem?_getD, List.getElem?_eq_getElem hlt']; simp
      generalize l.getD k ver0 = v at *
      replace htk := Lib.hid htk
      clear hlt'
      go_wp2_with fail
      refine (refmay_c v _ hkv).mono ?_
      rintro e w2 ⟨rfl, hB2⟩
      have hBB := hB.trans (hB2.mono (by have := hB.size; simpa using this))
      have hWW := hW.trans (hB2.mono hW.size)
      have d2 := bel_cell hB2 (cell_lt c2) c2
      have k0 := bel_cell hB2 (cell_lt g0) g0
      have k1 := bel_cell hB2 (cell_lt g1) g1
      have ho : oddv ep v = (!v.okv || v.ep != ep) := rfl
      have hany : oddv ep v = true → l.any (oddv ep) = true := fun ho => List.any_eq_true.2 ⟨v, hmem, ho⟩
      replace ho := Lib.hid ho
      replace hany := Lib.hid hany
      generalize v.okv = q at *
      cases q
      · go_wp2
        go_region
        all_goals go_wp2
        all_goals go_ret
        all_goals exact ⟨by rw [hres.out, hany.out (by rw [ho.out]; simp)]; simp, hWW.drew⟩
      · by_cases he : v.ep = ep
        · have he' : (v.ep != ep) = false := by simpa using he
          rw [he'] at ho
          replace he := Lib.hid he
          go_wp2
          go_region
          all_goals go_wp2
          all_goals go_roundw
          all_goals first | (case rel => exact ⟨k + 1, by omega, by go_num, by rw [htk.out, List.any_append, hno.out]; simp [ho.out], hBB.drew⟩) | skip
          all_goals first | (case measure => simp [intOf]; omega) | skip
        · have he' : (v.ep != ep) = true := by simpa using he
          rw [he'] at ho
          replace he := Lib.hid he
          go_wp2
          go_region
          all_goals go_wp2
          all_goals go_ret
          all_goals exact ⟨by rw [hres.out, hany.out (by rw [ho.out]; simp)]; simp, hWW.drew⟩
    · have hna := hno.out
      rw [List.take_of_length_le (by rw [hn.out]; omega)] at hna
      rw [hna] at hres
      clear hna
      by_cases h1 : 1 ≤ ep
      · by_cases h2 : ep ≤ 10000
        · have hd : decide (1 ≤ ep ∧ ep ≤ 10000) = true := by simp; omega
          rw [hd] at hres
          clear hd
          go_wp2
          go_ret
          exact ⟨by rw [hres.out]; simp, hW⟩
        · have hd : decide (1 ≤ ep ∧ ep ≤ 10000) = false := by simp; omega
          rw [hd] at hres
          clear hd
          go_wp2
          go_ret
          exact ⟨by rw [hres.out]; simp, hW⟩
      · have hd : decide (1 ≤ ep ∧ ep ≤ 10000) = false := by simp; omega
        rw [hd] at hres
        clear hd
        go_wp2
        go_ret
        exact ⟨by rw [hres.out]; simp, hW⟩
end Go.Proofs.Ytkmmaijkidkoiaa
