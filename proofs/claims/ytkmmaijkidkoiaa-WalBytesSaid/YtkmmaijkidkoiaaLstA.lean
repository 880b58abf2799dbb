/- A list of versions is written: the code's row.List. -/
import Derived.Test.YtkmmaijkidkoiaaMayE
namespace Go.Proofs.Ytkmmaijkidkoiaa
open Go Go.RowKit

theorem okv_fit {v : Ver} (h : v.okv = true) (hk : v.key.size ≤ 100000) : v.Fit := by
  simp only [Ver.okv, spanOk, Bool.and_eq_true, decide_eq_true_eq] at h
  exact ⟨hk, by omega, by omega, by omega, by omega, by omega, by omega, by omega⟩

set_option maxRecDepth 100000 in
set_option maxHeartbeats 1000000 in
theorem rowlist_c (A : Option Addr) (n c : Nat) (l : List Ver) (w : World) (hA : Rd w A (l.flatMap Ver.cells)) (hn : l.length = n) (hnb : n ≤ 1000) (hv : ∀ v ∈ l, v.okv = true ∧ v.key.size ≤ 100000) :
   Calls Try.prog 52 #[.slice A n c] w fun e w' => ∃ A' N c', e = .returned (.tuple #[.slice A' N c', .int .i64 0]) ∧ N = (vlist l).length ∧ w'.ownsRow w.heap.size 5 1 (.slice A' N c') N ((vlist l).map bv) ∧ Below w.heap.size w w' := by
  replace hn := Lib.hid hn
  replace hv := Lib.hid hv
  go_enter Try.func52, Try.ntmps52
  go_wp2_with fail
  refine (vput_c none (some ⟨w.heap.size, 0, none⟩) 0 0 1 1 [] [(n : Int)] _ (Rd.nil _ _) rfl (by omega) (Rd.new1 w _ _ _ rfl) rfl (by simp; omega)).mono ?_
  rintro e w1 ⟨A1, N1, c1, rfl, hN1, hown1, hB1⟩
  have hb1 : Below w.heap.size w w1 := ((Below.refl _ _).alloc (Nat.le_refl _) _).trans (hB1.mono (by simp))
  have hput : ([] ++ [(n : Int)].flatMap putI) = putN n := by simp [putI]
  rw [hput] at hN1 hown1
  have hown1' := own_base hown1 (base' := w.heap.size) (by simp)
  have h10 := putN_len10 n (by omega)
  rw [← hN1] at h10
  replace hN1 := Lib.hid hN1
  clear hown1 hput hB1
  go_wp2_with fail
  go_loopw [4, 13] (fun b i wr => ∃ (k : Nat) (A' : Option Addr) (N c' : Nat), k ≤ n ∧ i = .int .i64 (k : Int) ∧ b = .slice A' N c' ∧ N = (putN n ++ (l.take k).flatMap Ver.bytes).length ∧ wr.ownsRow w.heap.size 5 1 (.slice A' N c') N ((putN n ++ (l.take k).flatMap Ver.bytes).map bv) ∧ Below w.heap.size w wr)
     (fun _ i _ => n - (intOf i).toNat)
  case atStart => exact ⟨0, A1, N1, c1, by omega, rfl, rfl, by simpa using hN1.out, by simpa using hown1', hb1⟩
  case round =>
    obtain ⟨k, A', N, c', hk, rfl, rfl, hN, hown, hB⟩ := hrel
    replace hN := Lib.hid hN
    by_cases hlt : k < n
    · have hlt' : k < l.length := by rw [hn.out]; exact hlt
      obtain ⟨b, o, rfl, c0, c1, c2, c3, c4, c5, c6, c7⟩ := (hA.ext hB).ver hlt'
      have htk := take_flat Ver.bytes l k ver0 hlt'
      have hok := hv.out (l.getD k ver0) (by rw [List.getD_eq_getElem?_getD, List.getElem?_eq_getElem hlt']; simp)
      have hfit : (l.getD k ver0).Fit := okv_fit hok.1 hok.2
      have hfl := vers_len (l.take k) (fun y hy => okv_fit (hv.out y (List.mem_of_mem_take hy)).1 (hv.out y (List.mem_of_mem_take hy)).2)
      have hfl' : (List.take k l).length ≤ k := List.length_take_le _ _
      have hNb : N ≤ 10 + 200100 * k := by rw [hN.out, List.length_append]; have := putN_len10 n (by omega); omega
      generalize l.getD k ver0 = v at *
      replace htk := Lib.hid htk
      clear hfl hfl' hlt'
      replace hfit := Lib.hid hfit
      replace hok := Lib.hid hok
      go_wp2_with fail
      refine (rowmay_c v _ (by have := hok.out.2; omega)).mono ?_
      rw [hok.out.1]
      rintro e w2 ⟨rfl, hB2⟩
      obtain ⟨q1, q2, q3, q4, q5, q6, q7⟩ := ver_box hB2
      have q0 := bel_cell hB2 (show wr.heap.size < _ by simp) (o := 0) (u := .string v.key) (by go_simp)
      have hWr : Below wr.heap.size wr w2 := ((Below.refl _ _).alloc (Nat.le_refl _) _).trans (hB2.mono (by simp))
      have hW2 := hB.trans (hWr.mono hB.size)
      have hown2 := own_ext hown hWr
      go_wp2_with fail
      refine (rowput_c A' N c' (putN n ++ (l.take k).flatMap Ver.bytes) v _ (Rd.of_own hown2) hN.out.symm (by omega) hfit.out).mono ?_
      rintro e w3 ⟨A3, N3, c3, rfl, hN3, hown3, hB3⟩
      rw [List.append_assoc, ← htk.out] at hN3 hown3
      replace hown3 := own_base hown3 hW2.size
      have hW3 := hW2.trans (hB3.mono hW2.size)
      replace hN3 := Lib.hid hN3
      go_wp2
      go_roundw
      case rel => exact ⟨k + 1, A3, N3, c3, by omega, by go_num, rfl, hN3.out, hown3, hW3⟩
      case measure => simp [intOf]; omega
    · go_wp2
      go_ret2
      have e : k = n := by omega
      subst e
      have hn' := hn.out
      rw [List.take_of_length_le (by omega)] at hown
      have hN' := hN.out
      rw [List.take_of_length_le (by omega)] at hN'
      exact ⟨A', N, c', rfl, by rw [hN', vlist, hn'], by rw [vlist, hn']; exact hown, hB⟩
/-- A group's bytes. -/
def gbytes (ep : Int) (l : List Ver) : List UInt8 := putI ep ++ vlist l
theorem vlist_len (l : List Ver) (n : Nat) (hn : l.length = n) (hnb : n ≤ 1000) (h : ∀ v ∈ l, v.Fit) : (vlist l).length ≤ 10 + 200100 * n := by
  have h1 := vers_len l h
  have h2 := putN_len10 l.length (by omega)
  rw [vlist, List.length_append]
  rw [hn] at h1 h2 ⊢
  omega

set_option maxRecDepth 100000 in
set_option maxHeartbeats 1000000 in
theorem walwrite_c (ep : Int) (A : Option Addr) (n c : Nat) (l : List Ver) (w : World) (hA : Rd w A (l.flatMap Ver.cells)) (hn : l.length = n) (hnb : n ≤ 1000) (hv : ∀ v ∈ l, v.okv = true ∧ v.key.size ≤ 100000) (h0 : 0 ≤ ep) (h1 : ep ≤ 10000) :
   Calls Try.prog 23 #[.agg #[.int .i64 ep, .slice A n c]] w fun e w' => ∃ A' N c', e = .returned (.slice A' N c') ∧ N = (gbytes ep l).length ∧ w'.ownsRow w.heap.size 5 1 (.slice A' N c') N ((gbytes ep l).map bv) ∧ Below w.heap.size w w' := by
  have hc := fun w hA => rowlist_c A n c l w hA hn hnb hv
  have hvl := vlist_len l n hn hnb (fun v hm => okv_fit (hv v hm).1 (hv v hm).2)
  replace hc := Lib.hid hc
  have hgb : gbytes ep l = putI ep ++ vlist l := rfl
  rw [hgb]
  clear hgb hn hv
  generalize vlist l = B at *
  go_enter Try.func23, Try.ntmps23
  go_wp2_with fail
  refine (hc.out _ (hA.ext ((Below.refl _ _).alloc (Nat.le_refl _) _))).mono ?_
  rintro e w1 ⟨A1, N1, c1, rfl, hN1, hown1, hB1⟩
  have hW : Below w.heap.size w w1 := ((Below.refl _ _).alloc (Nat.le_refl _) _).trans (hB1.mono (by simp))
  have hg := bel_cell hB1 (show w.heap.size < _ by simp) (o := 0) (u := .int .i64 ep) (by go_simp)
  have hN1b : N1 ≤ 10 + 200100 * n := by omega
  replace hN1 := Lib.hid hN1
  go_wp2_with fail
  refine (vput_c none (some ⟨w1.heap.size, 0, none⟩) 0 0 1 1 [] [ep] _ (Rd.nil _ _) rfl (by omega) (Rd.new1 w1 _ _ _ rfl) rfl (by simp; omega)).mono ?_
  rintro e w2 ⟨A2, N2, c2, rfl, hN2, hown2, hB2⟩
  have hput : ([] ++ [ep].flatMap putI) = putI ep := by simp
  rw [hput] at hN2 hown2
  have h10 : N2 ≤ 10 := by rw [hN2, putI]; exact putN_len10 _ (by omega)
  have hb2 : Below w1.heap.size w1 w2 := ((Below.refl _ _).alloc (Nat.le_refl _) _).trans (hB2.mono (by simp))
  have hW2 := hW.trans (hb2.mono hW.size)
  have hown2' := own_base hown2 (base' := w.heap.size) (by have := hW.size; simp; omega)
  have hR1 := (Rd.of_own hown1).ext hb2
  replace hN2 := Lib.hid hN2
  clear hown2 hB2 hput
  go_wp2_with (at_builtin; refine wl_append rfl _ _ 29 rfl _ _ 1 1 siB w.heap.size w hW2 (Nat.le_refl _) A2 N2 c2 _ rfl hown2' A1 N1 c1 _ rfl (by simpa using hN1.out.symm) hR1 (bvs_one _) (N2 + N1) ((putI ep ++ B).map bv) rfl (by rw [List.map_append]) (by omega) (by omega) ?_; intro A3 c3 w3 hown3 hB3 hg3 hl3)
  go_ret
  exact ⟨A3, N2 + N1, c3, rfl, by rw [List.length_append, ← hN1.out, ← hN2.out], hown3, hB3⟩
end Go.Proofs.Ytkmmaijkidkoiaa
