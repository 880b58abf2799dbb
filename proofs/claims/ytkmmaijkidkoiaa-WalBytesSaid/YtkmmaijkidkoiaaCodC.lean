/- vary.Text; the reference's Put and Text. -/
import Derived.Test.YtkmmaijkidkoiaaCodB
namespace Go.Proofs.Ytkmmaijkidkoiaa
open Go Go.RowKit

/-- A text's length and bytes. -/
def txt (s : ByteArray) : List UInt8 := putN s.size ++ s.data.toList
def sv (s : ByteArray) : Value := .string s
theorem Rd.str {w : World} {A : Option Addr} {ss : List ByteArray} (h : Rd w A (ss.map sv)) {k : Nat} (hk : k < ss.length) : ∃ b o, A = some ⟨b, o, none⟩ ∧ w.cell? ⟨b, o + k, none⟩ = some (.string (ss.getD k ByteArray.empty)) := by
  obtain ⟨b, o, hA, _, hc⟩ := h.at_ (by intro e; have := congrArg List.length e; simp at this; subst this; simp at hk)
  exact ⟨b, o, hA, hc k _ (by simp [hk, sv])⟩

set_option maxRecDepth 100000 in
set_option maxHeartbeats 400000 in
theorem rput_nat (n : Nat) : ∀ (w : World), n < 9223372036854775808 → Calls Try.prog 27 #[.int .i64 (n : Int)] w fun e w' => ∃ A N c, e = .returned (.slice A N c) ∧ N = (putN n).length ∧ w'.ownsRow w.heap.size 5 1 (.slice A N c) N ((putN n).map bv) ∧ Below w.heap.size w w' := by
  induction n using Nat.strongRecOn with
  | _ n ih =>
    intro w hn
    by_cases h : n < 128
    · go_enter Try.func27, Try.ntmps27
      go_wp2
      go_ret
      refine ⟨_, 1, _, rfl, by rw [putN_lt h]; rfl, ?_, (Below.refl _ _).alloc (Nat.le_refl _) _⟩
      rw [putN_lt h]
      have e := bv_of n (n : Int) (by omega)
      rw [e]
      exact own_new w w.heap.size 5 1 1 [_] (Nat.le_refl _) (by simp [maxLen]) rfl
    · have IH := ih (n / 128) (by omega)
      have h10 := putN_len10 n hn
      have h10' := putN_len10 (n / 128) (by omega)
      have IH := Lib.hid IH
      clear ih
      go_enter Try.func27, Try.ntmps27
      go_wp2_with fail
      refine (IH.out _ (by omega)).mono ?_
      rintro e w1 ⟨A1, N1, c1, rfl, hN1, hown1, hB1⟩
      have HN1 := Lib.hid hN1
      rw [← hN1] at h10'
      clear hN1
      go_wp2_with (at_builtin; refine wl_append rfl _ _ 29 rfl _ _ 1 1 siB w.heap.size w (((Below.refl _ _).alloc (Nat.le_refl _) _).trans (hB1.mono (by simp))) (Nat.le_refl _) (some ⟨w.heap.size, 0, none⟩) 1 1 [bv (UInt8.ofNat (n % 128 + 128))] rfl (own_ext (by rw [bv_of (n % 128 + 128) _ (by omega)]; exact own_new w w.heap.size 5 1 1 [_] (Nat.le_refl _) (by simp [maxLen]) rfl) hB1) A1 N1 c1 ((putN (n / 128)).map bv) rfl (by simpa using HN1.out.symm) (Rd.of_own hown1) (bvs_one _) (1 + N1) ((putN n).map bv) rfl (by rw [putN_ge h]; rfl) (by omega) (by omega) ?_; intro A3 c3 w3 hown3 hB3 hg3 hl3)
      go_ret
      refine ⟨A3, 1 + N1, c3, rfl, ?_, hown3, hB3⟩
      rw [putN_ge h, HN1.out, List.length_cons]; omega

set_option maxRecDepth 100000 in
set_option maxHeartbeats 400000 in
theorem rput_c (n : Int) (w : World) (hn : n < 9223372036854775808) : Calls Try.prog 27 #[.int .i64 n] w fun e w' => ∃ A N c, e = .returned (.slice A N c) ∧ N = (putI n).length ∧ w'.ownsRow w.heap.size 5 1 (.slice A N c) N ((putI n).map bv) ∧ Below w.heap.size w w' := by
  by_cases h0 : 0 ≤ n
  · obtain ⟨k, rfl⟩ := Int.eq_ofNat_of_zero_le h0
    exact rput_nat k w (by omega)
  · have e : putI n = [UInt8.ofNat 0] := by rw [putI, Int.toNat_of_nonpos (by omega), putN_lt (by omega)]
    have E := Lib.hid e
    clear e
    go_enter Try.func27, Try.ntmps27
    go_wp2
    go_ret
    refine ⟨_, 1, _, rfl, by rw [E.out]; rfl, ?_, (Below.refl _ _).alloc (Nat.le_refl _) _⟩
    rw [E.out]
    exact own_new w w.heap.size 5 1 1 [_] (Nat.le_refl _) (by simp [maxLen]) rfl

set_option maxRecDepth 100000 in
set_option maxHeartbeats 400000 in
theorem rtext_c (s : ByteArray) (w : World) (hs : s.size ≤ 1099511627776) : Calls Try.prog 80 #[.string s] w fun e w' => ∃ A N c, e = .returned (.slice A N c) ∧ N = (txt s).length ∧ w'.ownsRow w.heap.size 5 1 (.slice A N c) N ((txt s).map bv) ∧ Below w.heap.size w w' := by
  have h10 := putN_len10 s.size (by omega)
  go_enter Try.func80, Try.ntmps80
  go_wp2_with fail
  refine (rput_c _ _ (by omega)).mono ?_
  rintro e w1 ⟨A1, N1, c1, rfl, hN1, hown1, hB1⟩
  simp only [putI, Int.toNat_natCast] at hN1 hown1
  rw [← hN1] at h10
  have HN1 := Lib.hid hN1
  clear hN1
  go_wp2_with (at_builtin; refine wl_appendS rfl _ _ 29 9 rfl _ siB Try.underlying9 w.heap.size w hB1 (Nat.le_refl _) A1 N1 c1 _ rfl hown1 s rfl (N1 + s.size) ((txt s).map bv) rfl (by rw [txt, List.map_append]) (by omega) ?_; intro A3 c3 w3 hown3 hB3 hg3)
  go_ret
  refine ⟨A3, N1 + s.size, c3, rfl, ?_, hown3, hB3⟩
  rw [txt, List.length_append, HN1.out, Array.length_toList]; rfl

theorem txt_len (ss : List ByteArray) (h : ∀ s ∈ ss, s.size ≤ 1099511627776) : (ss.flatMap txt).length ≤ 10 * ss.length + (ss.map (·.size)).sum := by
  induction ss with
  | nil => simp
  | cons s l ih =>
    have h1 := putN_len10 s.size (by have := h s (by simp); omega)
    have h2 := ih (fun y hy => h y (by simp [hy]))
    have h3 : s.data.toList.length = s.size := by simp
    simp only [List.flatMap_cons, List.length_append, List.length_cons, txt, List.map_cons, List.sum_cons] at *
    omega
theorem mem_sum {s : ByteArray} {ss : List ByteArray} (h : s ∈ ss) : s.size ≤ (ss.map (·.size)).sum := by
  induction ss with
  | nil => cases h
  | cons x l ih =>
    simp only [List.map_cons, List.sum_cons]
    rcases List.mem_cons.1 h with rfl | h
    · omega
    · have := ih h; omega
theorem sum_take (f : ByteArray → Nat) (ss : List ByteArray) (k : Nat) (h : k < ss.length) : ((ss.take (k + 1)).map f).sum = ((ss.take k).map f).sum + f (ss.getD k ByteArray.empty) := by
  rw [List.take_succ_eq_append_getElem h, List.map_append, List.sum_append]
  simp [List.getD_eq_getElem?_getD, h]
theorem sum_take_le (f : ByteArray → Nat) (ss : List ByteArray) (k : Nat) : ((ss.take k).map f).sum ≤ (ss.map f).sum := by
  rw [← List.take_append_drop k (ss.map f), List.sum_append, List.map_take]
  omega

set_option maxRecDepth 100000 in
set_option maxHeartbeats 400000 in
theorem vtext_c (A L : Option Addr) (n c m cl : Nat) (bs : List UInt8) (ss : List ByteArray) (w : World) (hb : Rd w A (bs.map bv)) (hn : bs.length = n) (hL : Rd w L (ss.map sv)) (hm : ss.length = m)
    (hl : n + 10 * m + (ss.map (·.size)).sum ≤ 1099511627776) :
   Calls Try.prog 88 #[.slice A n c, .slice L m cl] w fun e w' => ∃ A' N c', e = .returned (.slice A' N c') ∧ N = (bs ++ ss.flatMap txt).length ∧ w'.ownsRow w.heap.size 5 1 (.slice A' N c') N ((bs ++ ss.flatMap txt).map bv) ∧ Below w.heap.size w w' := by
  have hr : ∀ s ∈ ss, s.size ≤ 1099511627776 := by
    intro s hs
    exact Nat.le_trans (mem_sum hs) (by omega)
  have HN := Lib.hid hn
  have HM := Lib.hid hm
  have HL := Lib.hid hl
  have hl' : n ≤ 1099511627776 := by omega
  have hmb : m ≤ 1099511627776 := by omega
  clear hn hm
  go_enter Try.func88, Try.ntmps88
  go_wp2_with (go_at_call 31; refine (clone_c A n c bs _ hb HN.out (by omega)).mono ?_; rintro e w1 ⟨A1, c1, rfl, hown1, hB1⟩)
  go_loopw [0, 11] (fun b i wr => ∃ k A' N c', k ≤ m ∧ i = .int .i64 (k : Int) ∧ b = .slice A' N c' ∧ N = (bs ++ (ss.take k).flatMap txt).length ∧ wr.ownsRow w.heap.size 5 1 (.slice A' N c') N ((bs ++ (ss.take k).flatMap txt).map bv) ∧ Below w.heap.size w wr)
     (fun _ i _ => m - (intOf i).toNat)
  case atStart => exact ⟨0, A1, n, c1, by omega, rfl, rfl, by simp [HN.out], by simpa using hown1, hB1⟩
  case round =>
    obtain ⟨k, A', N, c', hk, rfl, rfl, hN, hown, hB⟩ := hrel
    have HN' := Lib.hid hN
    clear hN
    by_cases hlt : k < m
    · obtain ⟨b, o, rfl, hcell⟩ := (hL.ext hB).str (k := k) (by rw [HM.out]; exact hlt)
      have hlt' : k < ss.length := by rw [HM.out]; exact hlt
      have h1 := txt_len (ss.take k) (fun y hy => hr y (List.mem_of_mem_take hy))
      have h2 : (List.take k ss).length ≤ k := List.length_take_le _ _
      have h3 := sum_take (·.size) ss k hlt'
      have h4 := sum_take_le (·.size) ss (k + 1)
      have hN' : N ≤ n + 10 * k + ((ss.take k).map (·.size)).sum := by rw [HN'.out, List.length_append, HN.out]; omega
      obtain ⟨s, hs⟩ : ∃ s, s = ss.getD k ByteArray.empty := ⟨_, rfl⟩
      rw [← hs] at hcell h3
      have htk := take_flat txt ss k ByteArray.empty hlt'
      rw [← hs] at htk
      have HT := Lib.hid htk
      have hb1 : N + 10 + s.size ≤ 1099511627776 := by omega
      have h10 := putN_len10 s.size (by omega)
      clear h1 h2 h3 h4 hN' hs hlt' htk hl
      go_wp2_with fail
      refine (vput_c A' (some ⟨wr.heap.size, 0, none⟩) N c' 1 1 _ [(s.size : Int)] _ ((Rd.of_own hown).ext ((Below.refl _ _).alloc (Nat.le_refl _) _)) HN'.out.symm (by omega) (Rd.new wr [_] _) rfl (by simp; omega)).mono ?_
      rintro e w2 ⟨A2, N2, c2, rfl, hN2, hown2, hB2⟩
      have hBB : Below w.heap.size w w2 := (hB.alloc hB.size _).trans (hB2.mono (by have := hB.size; simp; omega))
      have hN2' : N2 = N + (putN s.size).length := by rw [hN2, HN'.out]; simp [putI]; omega
      have HN2 := Lib.hid hN2
      have h11 : N2 ≤ N + 10 := by omega
      have HN2' := Lib.hid hN2'
      clear hN2 hN2'
      go_wp2_with (at_builtin; refine wl_appendS rfl _ _ 29 9 rfl _ siB Try.underlying9 w.heap.size w hBB (Nat.le_refl _) A2 N2 c2 _ rfl (own_base hown2 (by have := hB.size; simp; omega)) s rfl (N2 + s.size) ((bs ++ (ss.take (k + 1)).flatMap txt).map bv) rfl (by rw [HT.out]; simp [txt, putI]) (by omega) ?_; intro A3 c3 w3 hown3 hB3 hg3)
      go_roundw
      case rel =>
        refine ⟨k + 1, A3, N2 + s.size, c3, by omega, by go_num, rfl, ?_, hown3, hB3⟩
        rw [HN2'.out, HN'.out, HT.out]
        simp [txt]
        show _ = _ + (_ + (_ + s.data.size))
        have : s.data.size = s.size := rfl
        omega
      case measure => simp [intOf]; omega
    · go_wp2
      go_ret
      have e : k = m := by omega
      subst e
      rw [List.take_of_length_le (by rw [HM.out]; omega)] at HN' hown
      exact ⟨A', N, c', rfl, HN'.out, hown, hB⟩
end Go.Proofs.Ytkmmaijkidkoiaa
