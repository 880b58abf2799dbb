/- May a group be written: the code's wal.may. -/
import Derived.Test.YtkmmaijkidkoiaaMayC
namespace Go.Proofs.Ytkmmaijkidkoiaa
open Go Go.RowKit

/-- A version that a group of this epoch may not hold. -/
def oddv (ep : Int) (v : Ver) : Bool := !v.okv || v.ep != ep

set_option maxRecDepth 100000 in
set_option maxHeartbeats 1000000 in
theorem may1_c (b : Nat) (ep : Int) (v : Ver) (w : World) (hk : v.key.size ≤ 1000000) (hg : w.cell? ⟨b, 0, none⟩ = some (.int .i64 ep)) :
   Calls Try.prog 43 #[v.agg, .pointer (some ⟨b, 0, none⟩)] w fun e w' => e = .returned (.bool (oddv ep v)) ∧ Below w.heap.size w w' := by
  have hres : oddv ep v = (!v.okv || v.ep != ep) := rfl
  replace hres := Lib.hid hres
  have hc := fun w => rowmay_c v w hk
  generalize v.okv = q at *
  replace hc := Lib.hid hc
  clear hk
  generalize hv : oddv ep v = r at *
  clear hv
  rcases v with ⟨key, br, ep', sq, fr, too, val, gone⟩
  simp only at hres
  go_enter Try.func43, Try.ntmps43
  go_wp2_with fail
  refine (hc.out _).mono ?_
  rintro e w1 ⟨rfl, hB1⟩
  have hW : Below w.heap.size w w1 := ((Below.refl _ _).alloc (Nat.le_refl _) _).trans (hB1.mono (by simp))
  obtain ⟨q1, q2, q3, q4, q5, q6, q7⟩ := ver_box hB1
  have hg1 := bel_cell hW (cell_lt hg) hg
  clear hB1 hg
  cases q
  · go_wp2
    go_ret
    exact ⟨by rw [hres.out]; simp, hW⟩
  · by_cases he : ep' = ep
    · subst he
      go_wp2
      go_ret
      exact ⟨by rw [hres.out]; simp, hW⟩
    · have he' : (ep' != ep) = true := by simpa using he
      go_wp2
      go_ret
      exact ⟨by rw [hres.out]; simp [he], hW⟩

set_option maxRecDepth 100000 in
set_option maxHeartbeats 1000000 in
theorem ifn_c (b : Nat) (ep : Int) (A : Option Addr) (n c : Nat) (l : List Ver) (w : World) (hA : Rd w A (l.flatMap Ver.cells)) (hn : l.length = n) (hnb : n ≤ 1000000) (hk : ∀ v ∈ l, v.key.size ≤ 1000000) (hg : w.cell? ⟨b, 0, none⟩ = some (.int .i64 ep)) :
   Calls Try.prog 75 #[.slice A n c, .func (.func 43) #[] #[.pointer (some ⟨b, 0, none⟩)]] w fun e w' => ∃ r : Int, e = .returned (.int .i64 r) ∧ decide (0 ≤ r) = l.any (oddv ep) ∧ Below w.heap.size w w' := by
  replace hn := Lib.hid hn
  replace hk := Lib.hid hk
  go_enter Try.func75, Try.ntmps75
  go_wp2_with fail
  go_loopw [8] (fun i wr => ∃ k : Nat, k ≤ n ∧ i = .int .i64 (k : Int) ∧ (l.take k).any (oddv ep) = false ∧ Below w.heap.size w wr) (fun i _ => n - (intOf i).toNat)
  case atStart => exact ⟨0, by omega, rfl, rfl, Below.refl _ _⟩
  case round =>
    obtain ⟨k, hkn, rfl, hno, hB⟩ := hrel
    replace hno := Lib.hid hno
    by_cases hlt : k < n
    · have hlt' : k < l.length := by rw [hn.out]; exact hlt
      obtain ⟨b', o, rfl, c0, c1, c2, c3, c4, c5, c6, c7⟩ := (hA.ext hB).ver hlt'
      have hkv : (l.getD k ver0).key.size ≤ 1000000 := hk.out _ (by rw [List.getD_eq_getElem?_getD, List.getElem?_eq_getElem hlt']; simp)
      have htk : l.take (k + 1) = l.take k ++ [l.getD k ver0] := by rw [List.take_succ_eq_append_getElem hlt', List.getD_eq_getElem?_getD, List.getElem?_eq_getElem hlt']; simp
      have hmem : l.getD k ver0 ∈ l := by rw [List.getD_eq_getElem?_getD, List.getElem?_eq_getElem hlt']; simp
      have hg1 := bel_cell hB (cell_lt hg) hg
      generalize l.getD k ver0 = v at *
      replace htk := Lib.hid htk
      clear hlt'
      go_wp2_with fail
      refine (may1_c b ep v _ hkv hg1).mono ?_
      rintro e w2 ⟨rfl, hB2⟩
      have hBB := hB.trans (hB2.mono hB.size)
      cases ho : oddv ep v
      · replace ho := Lib.hid ho
        go_wp2
        go_roundw
        case rel => exact ⟨k + 1, by omega, by go_num, by rw [htk.out, List.any_append, hno.out]; simp [ho.out], hBB⟩
        case measure => simp [intOf]; omega
      · have hany : l.any (oddv ep) = true := List.any_eq_true.2 ⟨v, hmem, ho⟩
        replace ho := Lib.hid ho
        replace hany := Lib.hid hany
        go_wp2
        go_ret
        exact ⟨k, rfl, by rw [hany.out]; simp, hBB⟩
    · go_wp2
      go_ret
      refine ⟨-1, rfl, ?_, hB⟩
      have := hno.out
      rw [List.take_of_length_le (by rw [hn.out]; omega)] at this
      rw [this]
      rfl

set_option maxRecDepth 100000 in
set_option maxHeartbeats 1000000 in
theorem cfn_c (b : Nat) (ep : Int) (A : Option Addr) (n c : Nat) (l : List Ver) (w : World) (hA : Rd w A (l.flatMap Ver.cells)) (hn : l.length = n) (hnb : n ≤ 1000000) (hk : ∀ v ∈ l, v.key.size ≤ 1000000) (hg : w.cell? ⟨b, 0, none⟩ = some (.int .i64 ep)) :
   Calls Try.prog 45 #[.slice A n c, .func (.func 43) #[] #[.pointer (some ⟨b, 0, none⟩)]] w fun e w' => e = .returned (.bool (l.any (oddv ep))) ∧ Below w.heap.size w w' := by
  have hc := fun w hA hg => ifn_c b ep A n c l w hA hn hnb hk hg
  replace hc := Lib.hid hc
  clear hn hk
  go_enter Try.func45, Try.ntmps45
  go_wp2_with fail
  refine (hc.out _ hA hg).mono ?_
  rintro e w1 ⟨r, rfl, hr, hB1⟩
  by_cases h0 : 0 ≤ r
  · have hq : l.any (oddv ep) = true := by rw [← hr]; simp [h0]
    replace hq := Lib.hid hq
    clear hr
    go_wp2
    go_ret
    exact ⟨by rw [hq.out]; simp [h0], hB1⟩
  · have hq : l.any (oddv ep) = false := by rw [← hr]; simp [h0]
    replace hq := Lib.hid hq
    clear hr
    go_wp2
    go_ret
    exact ⟨by rw [hq.out]; simp [h0], hB1⟩
end Go.Proofs.Ytkmmaijkidkoiaa
