/- The document's frame; the document's bytes of a group. -/
import Derived.Test.YtkmmaijkidkoiaaDskK
namespace Go.Proofs.Ytkmmaijkidkoiaa
open Go Go.RowKit

set_option maxRecDepth 100000 in
set_option maxHeartbeats 1000000 in
theorem rframe_c (B : Option Addr) (m cm : Nat) (bs : List UInt8) (w : World) (hb : Rd w B (bs.map bv)) (hm : bs.length = m) (hl : m ≤ 1000000000) :
   Calls Try.prog 28 #[.slice B m cm] w fun e w' => ∃ A c, e = .returned (.slice A (8 + m) c) ∧ w'.ownsRow w.heap.size 5 1 (.slice A (8 + m) c) (8 + m) ((frame bs).map bv) ∧ Below w.heap.size w w' := by
  have hfr : frame bs = le4 m ++ le4 (crc bs) ++ bs := by rw [frame, hm]
  have hcrc := crc_lt bs
  replace hm := Lib.hid hm
  replace hfr := Lib.hid hfr
  go_enter Try.func28, Try.ntmps28
  go_wp2_with fail
  refine (four_c m w (by omega)).mono ?_
  rintro e w1 ⟨A1, c1, rfl, hown1, hB1⟩
  go_wp2_with fail
  refine (rsum_c B m cm bs w1 (hb.ext hB1) hm.out hl).mono ?_
  rintro e w2 ⟨rfl, hB2⟩
  have hown2 := own_ext hown1 hB2
  have hB2' := hB1.trans (hB2.mono hB1.size)
  clear hown1
  go_wp2_with fail
  refine (four_c (crc bs) w2 hcrc).mono ?_
  rintro e w3 ⟨A3, c3, rfl, hown3, hB3⟩
  have hown23 := own_ext hown2 hB3
  have hB3' := hB2'.trans (hB3.mono hB2'.size)
  have hR3 := Rd.of_own hown3
  clear hown2
  replace hown3 := Lib.hid hown3
  go_wp2_with (first
    | (at_builtin; refine wl_append rfl _ _ 29 rfl _ _ 1 1 siB w.heap.size w hB3' (Nat.le_refl _) A1 4 c1 _ rfl hown23 A3 4 c3 _ rfl (by simp [le4]) hR3 (bvs_one _) 8 ((le4 m ++ le4 (crc bs)).map bv) rfl (by rw [List.map_append]) (by omega) (by omega) ?_; intro A5 c5 w5 hown5 hB5 hg5 hl5; have hR5 := hb.ext hB5; clear hown23)
    | (at_builtin; refine wl_append rfl _ _ 29 rfl _ _ 1 1 siB w.heap.size w hB5 (Nat.le_refl _) A5 8 c5 _ rfl hown5 B m cm _ rfl (by simpa using hm.out) hR5 (bvs_one _) (8 + m) ((frame bs).map bv) rfl (by rw [hfr.out, List.map_append (l₂ := bs)]) (by omega) (by omega) ?_; intro A6 c6 w6 hown6 hB6 hg6 hl6))
  go_ret
  exact ⟨A6, c6, rfl, hown6, hB6⟩

set_option maxRecDepth 100000 in
set_option maxHeartbeats 1000000 in
theorem rgwrite_c (ep : Int) (A : Option Addr) (n c : Nat) (l : List Ver) (w : World) (hA : Rd w A (l.flatMap Ver.cells)) (hn : l.length = n) (hnb : n ≤ 1000) (hv : ∀ v ∈ l, v.Fit) (h0 : 0 ≤ ep) (h1 : ep ≤ 10000) :
   Calls Try.prog 10 #[.agg #[.int .i64 ep, .slice A n c]] w fun e w' => ∃ A' N c', e = .returned (.slice A' N c') ∧ N = (frame (gbytes ep l)).length ∧ w'.ownsRow w.heap.size 5 1 (.slice A' N c') N ((frame (gbytes ep l)).map bv) ∧ Below w.heap.size w w' := by
  have hvl := vlist_len l n hn hnb hv
  have hc := fun w hA => rlist_c A n c l w hA hn (by omega) hv
  have hf := fun B m cm w hb hm hl => rframe_c B m cm (gbytes ep l) w hb hm hl
  have hgl : (gbytes ep l).length = (putI ep).length + (vlist l).length := by simp [gbytes]
  have hgb : gbytes ep l = putI ep ++ vlist l := rfl
  have h10 : (putI ep).length ≤ 10 := putN_len10 _ (by omega)
  have hfl := frame_len (gbytes ep l)
  replace hc := Lib.hid hc
  replace hf := Lib.hid hf
  generalize gbytes ep l = G at *
  generalize vlist l = V at *
  generalize hp : putI ep = P at *
  replace hp := Lib.hid hp
  replace hgb := Lib.hid hgb
  replace hgl := Lib.hid hgl
  replace hfl := Lib.hid hfl
  clear hn hv
  go_enter Try.func10, Try.ntmps10
  go_wp2_with fail
  refine (rput_c ep _ (by omega)).mono ?_
  rintro e w1 ⟨A1, N1, c1, rfl, hN1, hown1, hB1⟩
  rw [hp.out] at hN1 hown1
  have hW1 : Below w.heap.size w w1 := ((Below.refl _ _).alloc (Nat.le_refl _) _).trans (hB1.mono (by simp))
  have hg := bel_cell hB1 (show w.heap.size < _ by simp) (o := 1) (u := .slice A n c) (by go_simp)
  have hown1' := own_base hown1 (base' := w.heap.size) (by simp)
  have hN1b : N1 ≤ 10 := by omega
  replace hN1 := Lib.hid hN1
  clear hown1 hB1
  go_wp2_with fail
  refine (hc.out _ (hA.ext hW1)).mono ?_
  rintro e w2 ⟨A2, N2, c2, rfl, hN2, hown2, hB2⟩
  have hW2 := hW1.trans (hB2.mono hW1.size)
  have hown12 := own_ext hown1' hB2
  have hR2 := Rd.of_own hown2
  have hN2b : N2 ≤ 10 + 200100 * n := by omega
  replace hN2 := Lib.hid hN2
  replace hown2 := Lib.hid hown2
  clear hown1'
  go_wp2_with (at_builtin; refine wl_append rfl _ _ 29 rfl _ _ 1 1 siB w.heap.size w hW2 (Nat.le_refl _) A1 N1 c1 _ rfl hown12 A2 N2 c2 _ rfl (by simpa using hN2.out.symm) hR2 (bvs_one _) (N1 + N2) (G.map bv) rfl (by rw [hgb.out, List.map_append]) (by omega) (by omega) ?_; intro A3 c3 w3 hown3 hB3 hg3 hl3)
  have hGl : G.length = N1 + N2 := by rw [hgl.out, hN1.out, hN2.out]
  have hGl' := Lib.hid hGl
  clear hGl
  have hR3 := Rd.of_own hown3
  go_wp2_with fail
  refine (hf.out A3 (N1 + N2) c3 w3 hR3 hGl'.out (by omega)).mono ?_
  rintro e w4 ⟨A4, c4, rfl, hown4, hB4⟩
  replace hown4 := Lib.hid hown4
  go_wp2
  go_ret
  exact ⟨A4, _, c4, rfl, by rw [hfl.out, hGl'.out], own_base hown4.out hB3.size, hB3.trans (hB4.mono hB3.size)⟩

/-- What the reference cuts off a version. -/
def cutS (s : ByteArray) (n : Nat) : ByteArray := s.extract 0 n
theorem cutS_size (s : ByteArray) (n : Nat) : (cutS s n).size ≤ n := by
  unfold cutS
  rw [ByteArray.size_extract]
  omega
theorem cutS_le (s : ByteArray) (n : Nat) (h : s.size ≤ n) : cutS s n = s := by
  unfold cutS
  apply ByteArray.ext
  rw [ByteArray.data_extract]
  exact Array.extract_eq_self_of_le (by simpa using h)
def Ver.cut (v : Ver) : Ver := { v with key := cutS v.key 110, val := cutS v.val 210 }
end Go.Proofs.Ytkmmaijkidkoiaa
