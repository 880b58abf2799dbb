/- A frame: the code's check.Frame, of one row of bytes. -/
import Derived.Test.YtkmmaijkidkoiaaChkB
namespace Go.Proofs.Ytkmmaijkidkoiaa
open Go Go.RowKit

/-- The frame of bytes. -/
def frame (l : List UInt8) : List UInt8 := le4 l.length ++ le4 (crc l) ++ l
theorem crc_lt (l : List UInt8) : crc l < 4294967296 := by unfold crc; omega
theorem frame_len (l : List UInt8) : (frame l).length = 8 + l.length := by simp [frame, le4]; omega

set_option maxRecDepth 100000 in
set_option maxHeartbeats 1000000 in
theorem cframe_c (L B : Option Addr) (m cm : Nat) (bs : List UInt8) (w : World) (hL : Rd w L [.slice B m cm]) (hb : Rd w B (bs.map bv)) (hm : bs.length = m) (hl : m ≤ 1000000000) :
   Calls Try.prog 22 #[.slice L 1 1] w fun e w' => ∃ A c, e = .returned (.slice A (8 + m) c) ∧ w'.ownsRow w.heap.size 5 1 (.slice A (8 + m) c) (8 + m) ((frame bs).map bv) ∧ Below w.heap.size w w' := by
  have hfr : frame bs = ([] ++ le4 m) ++ le4 (crc bs) ++ bs := by rw [frame, hm]; simp
  obtain ⟨b, o, rfl, _, hc⟩ := hL.at_ (by simp)
  have hc0 : w.cell? ⟨b, o, none⟩ = some (.slice B m cm) := hc 0 _ rfl
  replace hm := Lib.hid hm
  replace hfr := Lib.hid hfr
  clear hc hL
  go_enter Try.func22, Try.ntmps22
  go_wp2
  go_loopw [3, 8] (fun s i wr => (i = .int .i64 0 ∧ s = .slice none 0 0 ∧ Below w.heap.size w wr) ∨ (i = .int .i64 1 ∧ ∃ A c, s = .slice A (8 + m) c ∧ wr.ownsRow w.heap.size 5 1 (.slice A (8 + m) c) (8 + m) ((frame bs).map bv) ∧ Below w.heap.size w wr)) (fun _ i _ => 1 - (intOf i).toNat)
  case atStart => exact .inl ⟨rfl, rfl, Below.refl _ _⟩
  case round =>
    rcases hrel with ⟨rfl, rfl, hB⟩ | ⟨rfl, A, c, rfl, hown, hB⟩
    · have hcr := bel_cell hB (cell_lt hc0) hc0
      go_wp2_with fail
      refine (cput_c w none 0 0 [] m wr hB rfl (by omega) (by omega) (World.ownsRow_nil _ _ _ _)).mono ?_
      rintro e w2 ⟨A2, c2, rfl, hown2, hB2⟩
      go_wp2_with fail
      refine (csum_c B m cm bs w2 (hb.ext hB2) hm.out hl).mono ?_
      rintro e w3 ⟨rfl, hB3⟩
      have hB3' := hB2.trans (hB3.mono hB2.size)
      have hown3 := own_ext hown2 hB3
      go_wp2_with fail
      refine (cput_c w A2 4 c2 ([] ++ le4 m) (crc bs) w3 hB3' (by simp [le4]) (by omega) (crc_lt bs) hown3).mono ?_
      rintro e w4 ⟨A4, c4, rfl, hown4, hB4⟩
      have hR := hb.ext hB4
      go_wp2_with (at_builtin; refine wl_append rfl _ _ 29 rfl _ _ 1 1 siB w.heap.size w hB4 (Nat.le_refl _) A4 _ c4 _ rfl hown4 B m cm _ rfl (by simpa using hm.out) hR (bvs_one _) (8 + m) ((frame bs).map bv) rfl (by rw [hfr.out, List.map_append (l₂ := bs)]) (by omega) (by omega) ?_; intro A5 c5 w5 hown5 hB5 hg5 hl5)
      go_roundw
      case rel => exact .inr ⟨rfl, A5, c5, rfl, hown5, hB5⟩
      case measure => simp [intOf]
    · go_wp2
      go_ret
      exact ⟨A, c, rfl, hown, hB⟩
end Go.Proofs.Ytkmmaijkidkoiaa
