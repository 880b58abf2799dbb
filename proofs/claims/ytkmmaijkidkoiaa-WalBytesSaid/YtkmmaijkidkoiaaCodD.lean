/- A version's bytes: row.put and the reference's Write. -/
import Derived.Test.YtkmmaijkidkoiaaCodC
namespace Go.Proofs.Ytkmmaijkidkoiaa
open Go Go.RowKit

structure Ver where
  key : ByteArray
  br : Int
  ep : Int
  sq : Int
  fr : Int
  to : Int
  val : ByteArray
  gone : Bool
abbrev Ver.cells (v : Ver) : List Value := [.string v.key, .int .i64 v.br, .int .i64 v.ep, .int .i64 v.sq, .int .i64 v.fr, .int .i64 v.to, .string v.val, .bool v.gone]
abbrev Ver.agg (v : Ver) : Value := .agg #[.string v.key, .int .i64 v.br, .int .i64 v.ep, .int .i64 v.sq, .int .i64 v.fr, .int .i64 v.to, .string v.val, .bool v.gone]
def Ver.ns (v : Ver) : List Int := [v.br, v.ep, v.sq, v.fr, v.to - v.fr, if v.gone then 1 else 0]
def Ver.bytes (v : Ver) : List UInt8 := v.ns.flatMap putI ++ [v.key, v.val].flatMap txt
/-- What is asked of a version that is written: few bytes, numbers in their ranges. -/
structure Ver.Fit (v : Ver) : Prop where
  key : v.key.size ≤ 100000
  val : v.val.size ≤ 100000
  br : v.br < 9223372036854775808
  ep : v.ep < 9223372036854775808
  sq : v.sq < 9223372036854775808
  fr : 0 ≤ v.fr
  ft : v.fr < v.to
  to : v.to ≤ 1099511627776
theorem Ver.Fit.ns {v : Ver} (h : v.Fit) : ∀ x ∈ v.ns, x < 9223372036854775808 := by
  intro x hx
  have h1 := h.br; have h2 := h.ep; have h3 := h.sq; have h4 := h.fr; have h5 := h.ft; have h6 := h.to
  simp only [Ver.ns, List.mem_cons, List.not_mem_nil, or_false] at hx
  rcases hx with rfl | rfl | rfl | rfl | rfl | rfl <;> first | omega | (split <;> omega)
theorem Ver.Fit.len {v : Ver} (h : v.Fit) : v.bytes.length ≤ 200100 := by
  have h1 := flat_len v.ns h.ns
  have h2 := txt_len [v.key, v.val] (by intro s hs; have := h.key; have := h.val; simp at hs; rcases hs with rfl | rfl <;> omega)
  have := h.key; have := h.val
  simp only [Ver.bytes, List.length_append, Ver.ns, List.length_cons, List.length_nil, List.map_cons, List.map_nil, List.sum_cons, List.sum_nil] at *
  omega

set_option maxRecDepth 100000 in
set_option maxHeartbeats 400000 in
theorem rowput_c (A : Option Addr) (n c : Nat) (bs : List UInt8) (v : Ver) (w : World) (hb : Rd w A (bs.map bv)) (hn : bs.length = n) (hl : n ≤ 1000000000) (hv : v.Fit) :
   Calls Try.prog 77 #[.slice A n c, v.agg] w fun e w' => ∃ A' N c', e = .returned (.slice A' N c') ∧ N = (bs ++ v.bytes).length ∧ w'.ownsRow w.heap.size 5 1 (.slice A' N c') N ((bs ++ v.bytes).map bv) ∧ Below w.heap.size w w' := by
  have HN := Lib.hid hn
  have HV := Lib.hid hv.ns
  have hv1 := hv.fr; have hv2 := hv.ft; have hv3 := hv.to; have hv4 := hv.key; have hv5 := hv.val
  clear hn hv
  rcases v with ⟨key, br, ep, sq, fr, to, val, gone⟩
  simp only at hv1 hv2 hv3 hv4 hv5
  cases gone
  all_goals
    have h1 := flat_len _ HV.out
    simp only [Ver.ns, List.length_cons, List.length_nil] at h1
    have h2 := txt_len [key, val] (by intro s hs; simp at hs; rcases hs with rfl | rfl <;> omega)
    go_enter Try.func77, Try.ntmps77
    go_wp2_with fail
    refine (vput_c A (some ⟨w.heap.size + 1, 0, none⟩) n c 6 6 bs (Ver.ns _) _ (hb.ext (((Below.refl _ _).alloc (Nat.le_refl _) _).alloc (by simp) _)) HN.out (by omega) (Rd.newAt _ _ (by simp) [_, _, _, _, _, _] _) rfl HV.out).mono ?_
    rintro e w2 ⟨A2, N2, c2, rfl, hN2, hown2, hB2⟩
    have hBB : Below w.heap.size w w2 := (((Below.refl _ _).alloc (Nat.le_refl _) _).alloc (by simp) _).trans (hB2.mono (by simp; omega))
    have hN2' : N2 ≤ n + 60 := by rw [hN2, List.length_append, HN.out]; simp only [Ver.ns]; omega
    have HN2 := Lib.hid hN2
    clear hN2
    have hk0 : w2.cell? ⟨w.heap.size, 0, none⟩ = some (.string key) := (hB2.cell (p := ⟨w.heap.size, 0, none⟩) (by simp; omega)).trans (by go_simp)
    have hk6 : w2.cell? ⟨w.heap.size, 6, none⟩ = some (.string val) := (hB2.cell (p := ⟨w.heap.size, 6, none⟩) (by simp; omega)).trans (by go_simp)
    go_wp2_with fail
    refine (vtext_c A2 (some ⟨w2.heap.size, 0, none⟩) N2 c2 2 2 _ [key, val] _ ((Rd.of_own hown2).ext ((Below.refl _ _).alloc (Nat.le_refl _) _)) HN2.out.symm (Rd.newAt _ _ rfl [_, _] _) rfl (by simp; omega)).mono ?_
    rintro e w3 ⟨A3, N3, c3, rfl, hN3, hown3, hB3⟩
    have hBB3 : Below w.heap.size w w3 := (hBB.alloc hBB.size _).trans (hB3.mono (by have := hBB.size; simp; omega))
    have HN3 := Lib.hid hN3
    clear hN3
    go_wp2
    go_ret
    refine ⟨A3, N3, c3, rfl, ?_, ?_, hBB3⟩
    · rw [HN3.out, Ver.bytes, List.append_assoc]
    · have := own_base hown3 (base' := w.heap.size) (by have := hBB.size; simp; omega)
      rw [Ver.bytes, ← List.append_assoc]
      exact this

set_option maxRecDepth 100000 in
set_option maxHeartbeats 400000 in
theorem rwrite_c (v : Ver) (w : World) (hv : v.Fit) :
   Calls Try.prog 60 #[v.agg] w fun e w' => ∃ A' N c', e = .returned (.slice A' N c') ∧ N = v.bytes.length ∧ w'.ownsRow w.heap.size 5 1 (.slice A' N c') N (v.bytes.map bv) ∧ Below w.heap.size w w' := by
  have HV := Lib.hid hv.ns
  obtain ⟨L, hL⟩ : ∃ L, L = v.ns := ⟨_, rfl⟩
  replace hL := Lib.hid hL
  have hv1 := hv.fr; have hv2 := hv.ft; have hv3 := hv.to; have hv4 := hv.key; have hv5 := hv.val
  clear hv
  rcases v with ⟨key, br, ep, sq, fr, to, val, gone⟩
  simp only at hv1 hv2 hv3 hv4 hv5
  cases gone
  all_goals
    have h1 := flat_len _ HV.out
    simp only [Ver.ns, List.length_cons, List.length_nil] at h1
    have h2 := txt_len [key, val] (by intro s hs; simp at hs; rcases hs with rfl | rfl <;> omega)
    go_enter Try.func60, Try.ntmps60
    go_wp2_with fail
    have hL6 : L.length = 6 := by rw [hL.out]; rfl
    have hLr : ∀ x ∈ L, x < 9223372036854775808 := by rw [hL.out]; exact HV.out
    replace hL6 := Lib.hid hL6
    replace hLr := Lib.hid hLr
    go_loopw [3, 6] (fun b i wr => ∃ (k : Nat) (A' : Option Addr) (N c' : Nat), k ≤ 6 ∧ i = .int .i64 (k : Int) ∧ b = .slice A' N c' ∧ N = ((L.take k).flatMap putI).length ∧ wr.ownsRow (w.heap.size + 2) 5 1 (.slice A' N c') N (((L.take k).flatMap putI).map bv) ∧ Below w.heap.size w wr ∧ w.heap.size + 2 ≤ wr.heap.size ∧
        Rd wr (some ⟨w.heap.size + 1, 0, none⟩) (L.map iv) ∧ wr.cell? ⟨w.heap.size, 0, none⟩ = some (.string key) ∧ wr.cell? ⟨w.heap.size, 6, none⟩ = some (.string val))
       (fun _ i _ => 6 - (intOf i).toNat)
    (case atStart => exact ⟨0, none, 0, 0, by omega, rfl, rfl, rfl, World.ownsRow_nil _ _ _ _, (((Below.refl _ _).alloc (Nat.le_refl _) _).alloc (by simp) _), by simp, by rw [hL.out]; exact Rd.newAt _ _ (by simp) [_, _, _, _, _, _] _, by go_simp, by go_simp⟩)
    obtain ⟨k, A', N, c', hk, rfl, rfl, hN, hown, hB, hsz, hLL, hk0, hk6⟩ := hrel
    replace hN := Lib.hid hN
    by_cases hlt : k < 6
    · obtain ⟨b, o, hbo, hcell⟩ := hLL.int (k := k) (by rw [hL6.out]; exact hlt)
      injection hbo with hbo
      injection hbo with hbo1 hbo2
      subst hbo1 hbo2
      rw [Nat.zero_add] at hcell
      obtain ⟨x, hx⟩ : ∃ x, x = L.getD k 0 := ⟨_, rfl⟩
      rw [← hx] at hcell
      have hxr : x < 9223372036854775808 := by
        rw [hx]
        exact hLr.out _ (by rw [List.getD_eq_getElem?_getD, List.getElem?_eq_getElem (by rw [hL6.out]; exact hlt)]; simp)
      have htk := take_flat putI L k 0 (by rw [hL6.out]; exact hlt)
      rw [← hx] at htk
      replace htk := Lib.hid htk
      have hfl := flat_len (L.take k) (fun y hy => hLr.out y (List.mem_of_mem_take hy))
      rw [← hN.out, List.length_take] at hfl
      have hp10 := putN_len10 x.toNat (by omega)
      clear hx h1 h2
      go_wp2_with fail
      refine (rput_c x _ hxr).mono ?_
      rintro e w2 ⟨A2, N2, c2, rfl, hN2, hown2, hB2⟩
      have hN2' : N2 ≤ 10 := by rw [hN2]; exact hp10
      replace hN2 := Lib.hid hN2
      go_wp2_with (at_builtin; refine wl_append rfl _ _ 29 rfl _ _ 1 1 siB (w.heap.size + 2) wr (hB2.mono hsz) hsz A' N c' _ rfl (own_ext hown hB2) A2 N2 c2 _ rfl (by simpa using hN2.out.symm) (Rd.of_own hown2) (bvs_one _) (N + N2) (((L.take (k + 1)).flatMap putI).map bv) rfl (by rw [htk.out, List.map_append]) (by omega) (by omega) ?_; intro A3 c3 w3 hown3 hB3 hg3 hl3)
      go_roundw
      case rel =>
        exact ⟨k + 1, A3, N + N2, c3, by omega, by go_num, rfl, by rw [htk.out, List.length_append, ← hN.out, ← hN2.out], hown3, hB.trans (hB3.mono (by omega)), Nat.le_trans hsz hB3.size, hLL.bel hB3 (by omega), bel_cell hB3 (by omega) hk0, bel_cell hB3 (by omega) hk6⟩
      case measure => simp [intOf]; omega
    · have e : k = 6 := by omega
      subst e
      rw [List.take_of_length_le (by rw [hL6.out]; omega)] at hown
      have hN' := hN.out
      rw [List.take_of_length_le (by rw [hL6.out]; omega)] at hN'
      replace hN := Lib.hid hN'
      clear hN'
      have hNb : N ≤ 60 := by rw [hN.out]; have := flat_len L hLr.out; rw [hL6.out] at this; exact this
      clear h1 h2
      go_wp2_with fail
      refine (rtext_c key _ (by omega)).mono ?_
      rintro e w2 ⟨A2, N2, c2, rfl, hN2, hown2, hB2⟩
      have hN2' : N2 ≤ key.size + 10 := by rw [hN2]; have := txt_len [key] (by intro s hs; simp at hs; subst hs; omega); simp at this; omega
      replace hN2 := Lib.hid hN2
      have tok1 : True := trivial
      go_wp2_with (at_builtin; have _t := tok1; refine wl_append rfl _ _ 29 rfl _ _ 1 1 siB (w.heap.size + 2) wr (hB2.mono hsz) hsz A' N c' _ rfl (own_ext hown hB2) A2 N2 c2 _ rfl (by simpa using hN2.out.symm) (Rd.of_own hown2) (bvs_one _) (N + N2) ((L.flatMap putI ++ txt key).map bv) rfl (by rw [List.map_append]) (by omega) (by omega) ?_; intro A3 c3 w3 hown3 hB3 hg3 hl3; clear tok1; have hk6' := bel_cell hB3 (by omega) hk6; clear hk6 hk0)
      refine (rtext_c val _ (by omega)).mono ?_
      rintro e w4 ⟨A4, N4, c4, rfl, hN4, hown4, hB4⟩
      have hN4' : N4 ≤ val.size + 10 := by rw [hN4]; have := txt_len [val] (by intro s hs; simp at hs; subst hs; omega); simp at this; omega
      replace hN4 := Lib.hid hN4
      go_wp2_with (at_builtin; refine wl_append rfl _ _ 29 rfl _ _ 1 1 siB (w.heap.size + 2) wr (hB3.trans (hB4.mono (Nat.le_trans hsz hB3.size))) hsz A3 (N + N2) c3 _ rfl (own_ext hown3 hB4) A4 N4 c4 _ rfl (by simpa using hN4.out.symm) (Rd.of_own hown4) (bvs_one _) (N + N2 + N4) ((L.flatMap putI ++ txt key ++ txt val).map bv) rfl (by rw [← List.map_append]) (by omega) (by omega) ?_; intro A5 c5 w5 hown5 hB5 hg5 hl5)
      go_ret
      have eL := hL.out
      refine ⟨A5, N + N2 + N4, c5, rfl, ?_, ?_, hB.trans (hB5.mono (by omega))⟩
      · rw [Ver.bytes, hN.out, hN2.out, hN4.out, eL]; simp; omega
      · have := own_base hown5 (base' := w.heap.size) (by omega)
        rw [eL] at this
        simpa [Ver.bytes] using this
end Go.Proofs.Ytkmmaijkidkoiaa
