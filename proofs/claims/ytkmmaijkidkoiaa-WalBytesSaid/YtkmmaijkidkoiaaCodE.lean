/- Lists of versions as bytes: the reference's List. -/
import Derived.Test.YtkmmaijkidkoiaaCodD
namespace Go.Proofs.Ytkmmaijkidkoiaa
open Go Go.RowKit

def ver0 : Ver := ⟨ByteArray.empty, 0, 0, 0, 0, 0, ByteArray.empty, false⟩
theorem flat_get (l : List Ver) (k j : Nat) (hk : k < l.length) (hj : j < 8) : (l.flatMap Ver.cells)[k * 8 + j]? = (l.getD k ver0).cells[j]? := by
  induction l generalizing k with
  | nil => simp at hk
  | cons v l ih =>
    cases k with
    | zero =>
      rw [List.flatMap_cons, Nat.zero_mul, Nat.zero_add, List.getElem?_append_left (by simp; omega)]
      rfl
    | succ k =>
      have e : (k + 1) * 8 + j = v.cells.length + (k * 8 + j) := by simp; omega
      rw [List.flatMap_cons, e, List.getElem?_append_right (by omega), Nat.add_sub_cancel_left, ih k (by simpa using hk)]
      rfl
theorem Rd.ver {w : World} {A : Option Addr} {l : List Ver} (h : Rd w A (l.flatMap Ver.cells)) {k : Nat} (hk : k < l.length) : ∃ b o, A = some ⟨b, o, none⟩ ∧
    (w.cell? ⟨b, o + k * 8, none⟩ = some (.string (l.getD k ver0).key) ∧ w.cell? ⟨b, o + k * 8 + 1, none⟩ = some (.int .i64 (l.getD k ver0).br) ∧ w.cell? ⟨b, o + k * 8 + 2, none⟩ = some (.int .i64 (l.getD k ver0).ep) ∧ w.cell? ⟨b, o + k * 8 + 3, none⟩ = some (.int .i64 (l.getD k ver0).sq) ∧
     w.cell? ⟨b, o + k * 8 + 4, none⟩ = some (.int .i64 (l.getD k ver0).fr) ∧ w.cell? ⟨b, o + k * 8 + 5, none⟩ = some (.int .i64 (l.getD k ver0).to) ∧ w.cell? ⟨b, o + k * 8 + 6, none⟩ = some (.string (l.getD k ver0).val) ∧ w.cell? ⟨b, o + k * 8 + 7, none⟩ = some (.bool (l.getD k ver0).gone)) := by
  obtain ⟨b, o, hA, _, hc⟩ := h.at_ (by intro e; have := flat_get l k 0 hk (by omega); rw [e] at this; cases this)
  refine ⟨b, o, hA, ?_⟩
  have f : ∀ j u, j < 8 → (l.getD k ver0).cells[j]? = some u → w.cell? ⟨b, o + k * 8 + j, none⟩ = some u := by
    intro j u hj hu
    have := hc (k * 8 + j) u (by rw [flat_get l k j hk hj]; exact hu)
    rwa [← Nat.add_assoc] at this
  exact ⟨f 0 _ (by omega) rfl, f 1 _ (by omega) rfl, f 2 _ (by omega) rfl, f 3 _ (by omega) rfl, f 4 _ (by omega) rfl, f 5 _ (by omega) rfl, f 6 _ (by omega) rfl, f 7 _ (by omega) rfl⟩

def vlist (l : List Ver) : List UInt8 := putN l.length ++ l.flatMap Ver.bytes
theorem vers_len (l : List Ver) (h : ∀ v ∈ l, v.Fit) : (l.flatMap Ver.bytes).length ≤ 200100 * l.length := by
  induction l with
  | nil => simp
  | cons v l ih =>
    have h1 := (h v (by simp)).len
    have h2 := ih (fun y hy => h y (by simp [hy]))
    simp only [List.flatMap_cons, List.length_append, List.length_cons]
    omega

set_option maxRecDepth 100000 in
set_option maxHeartbeats 400000 in
theorem rlist_c (A : Option Addr) (n c : Nat) (l : List Ver) (w : World) (hA : Rd w A (l.flatMap Ver.cells)) (hn : l.length = n) (hnb : n ≤ 1000000) (hv : ∀ v ∈ l, v.Fit) :
   Calls Try.prog 29 #[.slice A n c] w fun e w' => ∃ A' N c', e = .returned (.slice A' N c') ∧ N = (vlist l).length ∧ w'.ownsRow w.heap.size 5 1 (.slice A' N c') N ((vlist l).map bv) ∧ Below w.heap.size w w' := by
  replace hn := Lib.hid hn
  replace hv := Lib.hid hv
  go_enter Try.func29, Try.ntmps29
  go_wp2_with fail
  refine (rput_c (n : Int) _ (by omega)).mono ?_
  rintro e w1 ⟨A1, N1, c1, rfl, hN1, hown1, hB1⟩
  simp only [putI, Int.toNat_natCast] at hN1 hown1
  have h10 := putN_len10 n (by omega)
  rw [← hN1] at h10
  replace hN1 := Lib.hid hN1
  go_wp2_with fail
  go_loopw [3, 4] (fun b i wr => ∃ (k : Nat) (A' : Option Addr) (N c' : Nat), k ≤ n ∧ i = .int .i64 (k : Int) ∧ b = .slice A' N c' ∧ N = (putN n ++ (l.take k).flatMap Ver.bytes).length ∧ wr.ownsRow w.heap.size 5 1 (.slice A' N c') N ((putN n ++ (l.take k).flatMap Ver.bytes).map bv) ∧ Below w.heap.size w wr)
     (fun _ i _ => n - (intOf i).toNat)
  case atStart => exact ⟨0, A1, N1, c1, by omega, rfl, rfl, by simpa using hN1.out, by simpa using hown1, hB1⟩
  case round =>
    obtain ⟨k, A', N, c', hk, rfl, rfl, hN, hown, hB⟩ := hrel
    replace hN := Lib.hid hN
    by_cases hlt : k < n
    · have hlt' : k < l.length := by rw [hn.out]; exact hlt
      obtain ⟨b, o, rfl, c0, c1, c2, c3, c4, c5, c6, c7⟩ := (hA.ext hB).ver hlt'
      have htk := take_flat Ver.bytes l k ver0 hlt'
      have hfit : (l.getD k ver0).Fit := hv.out _ (by rw [List.getD_eq_getElem?_getD, List.getElem?_eq_getElem hlt']; simp)
      have hfl := vers_len (l.take k) (fun y hy => hv.out y (List.mem_of_mem_take hy))
      have hfl' : (List.take k l).length ≤ k := List.length_take_le _ _
      have hNb : N ≤ 10 + 200100 * k := by rw [hN.out, List.length_append]; have := putN_len10 n (by omega); omega
      generalize l.getD k ver0 = v at *
      replace htk := Lib.hid htk
      clear hfl hfl' hlt'
      replace hfit := Lib.hid hfit
      go_wp2_with fail
      refine (rwrite_c v _ hfit.out).mono ?_
      rintro e w2 ⟨A2, N2, c2, rfl, hN2, hown2, hB2⟩
      have hN2b : N2 ≤ 200100 := by rw [hN2]; exact hfit.out.len
      replace hN2 := Lib.hid hN2
      go_wp2_with (at_builtin; refine wl_append rfl _ _ 29 rfl _ _ 1 1 siB w.heap.size w (hB.trans (hB2.mono hB.size)) (Nat.le_refl _) A' N c' _ rfl (own_ext hown hB2) A2 N2 c2 _ rfl (by simpa using hN2.out.symm) (Rd.of_own hown2) (bvs_one _) (N + N2) ((putN n ++ (l.take (k + 1)).flatMap Ver.bytes).map bv) rfl (by rw [htk.out, ← List.append_assoc, List.map_append (l₂ := v.bytes)]) (by omega) (by omega) ?_; intro A3 c3 w3 hown3 hB3 hg3 hl3)
      go_roundw
      case rel =>
        exact ⟨k + 1, A3, N + N2, c3, by omega, by go_num, rfl, by rw [htk.out, ← List.append_assoc, List.length_append (bs := v.bytes), ← hN.out, ← hN2.out], hown3, hB3⟩
      case measure => simp [intOf]; omega
    · go_wp2
      go_ret
      have e : k = n := by omega
      subst e
      have hn' := hn.out
      rw [List.take_of_length_le (by omega)] at hown
      have hN' := hN.out
      rw [List.take_of_length_le (by omega)] at hN'
      exact ⟨A', N, c', rfl, by rw [hN', vlist, hn'], by rw [vlist, hn']; exact hown, hB⟩
end Go.Proofs.Ytkmmaijkidkoiaa
