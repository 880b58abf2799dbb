/- slices.Concat of rows of bytes. -/
import Derived.Test.YtkmmaijkidkoiaaDskD
import Derived.Lib.AppendZeros
namespace Go.Proofs.Ytkmmaijkidkoiaa
open Go Go.RowKit

theorem byteInfo : ∃ i, Try.prog.info? 5 = some i ∧ i.zero = some (.int .u8 0) ∧ i.size = 1 ∧ i.bytes = 1 := by
  have h : (Try.prog.info? 5).map (fun i => (i.zero, i.size, i.bytes)) = some (some (.int .u8 0), 1, 1) := by kernel_rfl
  obtain ⟨i, hi, hz⟩ := Option.map_eq_some_iff.1 h
  simp only [Prod.mk.injEq] at hz
  exact ⟨i, hi, hz.1, hz.2.1, hz.2.2⟩
/-- append([]byte(nil), make([]byte, n)...) -/
theorem zeros_row (w : World) (ty : TypeId) (n : Nat) (h0 : 0 < n) (h1 : n ≤ 1000000000) : ∃ c w', (Builtin.append_ #[29, 3] ty #[.slice none 0 0, .int .i64 (n : Int)]).run Try.prog w = .ok (.slice (some ⟨w.heap.size, 0, none⟩) n c) w' ∧ w'.ownsRow w.heap.size 5 1 (.slice (some ⟨w.heap.size, 0, none⟩) 0 c) 0 [] ∧ Below w.heap.size w w' := by
  obtain ⟨i, hi, hz, hs, hb⟩ := byteInfo
  have h := Lib.run_append_nil_zeros (P := Try.prog) w 29 3 ty 5 i _ .i64 .i64 Try.underlying29 Try.underlying3 hi hz n h0 (by omega) (by omega) (by rw [hb]; omega)
  have hge := grownCap_ge w n 0 5
  refine ⟨_, _, h, ?_, ((Below.refl _ _).drew).alloc (Nat.le_refl _) _⟩
  have := World.ownsRow_made (base := w.heap.size) (e := 5) (size := 1) w.drew (Builtin.zeroCells (Value.int .u8 0).cells n ++ Builtin.zeroCells (Value.int .u8 0).cells (grownCap w n 0 5 - n)) (grownCap w n 0 5) (Nat.le_refl _) (grownCap_le_maxLen _ _ _ _ (by simp only [maxLen]; omega)) (by simp only [Array.size_append, size_zeroCells]; simp [Value.cells]; omega)
  exact this

set_option maxRecDepth 100000 in
set_option maxHeartbeats 1000000 in
theorem grow_c (n : Nat) (w : World) (hn : n ≤ 1000000000) :
   Calls Try.prog 76 #[.slice none 0 0, .int .i64 (n : Int)] w fun e w' => ∃ A c, e = .returned (.slice A 0 c) ∧ w'.ownsRow w.heap.size 5 1 (.slice A 0 c) 0 [] ∧ Below w.heap.size w w' := by
  by_cases h0 : n = 0
  · subst h0
    go_enter Try.func76, Try.ntmps76
    go_wp2
    go_ret
    exact ⟨none, 0, rfl, World.ownsRow_nil _ _ _ _, Below.refl _ _⟩
  · have hz := fun w ty => zeros_row w ty n (by omega) hn
    obtain ⟨c, w1, hrun, hown, hB⟩ := hz w 29
    replace hown := Lib.hid hown
    replace hB := Lib.hid hB
    replace hrun := Lib.hid hrun
    clear hz
    go_enter Try.func76, Try.ntmps76
    go_wp2_with (at_builtin; refine Lib.wpList_append_run _ rfl _ _ 29 3 rfl _ _ rfl rfl _ _ hrun.out ?_)
    go_ret
    exact ⟨_, c, rfl, hown.out, hB.out⟩
theorem sum_take_getD (l : List Nat) (k : Nat) (h : k < l.length) : (l.take (k + 1)).sum = (l.take k).sum + l.getD k 0 := by
  rw [List.take_succ_eq_append_getElem h, List.sum_append, List.getD_eq_getElem?_getD, List.getElem?_eq_getElem h]
  simp

set_option maxRecDepth 100000 in
set_option maxHeartbeats 1000000 in
theorem concat_c (L A B : Option Addr) (n c m cm : Nat) (xs ys : List UInt8) (w : World) (hL : Rd w L [.slice A n c, .slice B m cm]) (ha : Rd w A (xs.map bv)) (hb : Rd w B (ys.map bv)) (hn : xs.length = n) (hm : ys.length = m) (hl : n + m ≤ 1000000000) :
   Calls Try.prog 48 #[.slice L 2 2] w fun e w' => ∃ C N cN, e = .returned (.slice C N cN) ∧ N = n + m ∧ w'.ownsRow w.heap.size 5 1 (.slice C N cN) N ((xs ++ ys).map bv) ∧ Below w.heap.size w w' := by
  obtain ⟨b, o, rfl, _, hc⟩ := hL.at_ (by simp)
  have hc0 : w.cell? ⟨b, o, none⟩ = some (.slice A n c) := hc 0 _ rfl
  have hc1 : w.cell? ⟨b, o + 1, none⟩ = some (.slice B m cm) := hc 1 _ rfl
  replace hn := Lib.hid hn
  replace hm := Lib.hid hm
  clear hc hL
  have hg := fun w => grow_c (n + m) w (by omega)
  replace hg := Lib.hid hg
  go_enter Try.func48, Try.ntmps48
  go_wp2_with fail
  go_loopw [3, 11] (fun s i wr => wr = w ∧ ((i = .int .i64 0 ∧ s = .int .i64 0) ∨ (i = .int .i64 1 ∧ s = .int .i64 (n : Int)) ∨ (i = .int .i64 2 ∧ s = .int .i64 ((n + m : Nat) : Int)))) (fun _ i _ => 2 - (intOf i).toNat)
  case atStart => exact ⟨rfl, .inl ⟨rfl, rfl⟩⟩
  case round =>
    obtain ⟨hw, ⟨rfl, rfl⟩ | ⟨rfl, rfl⟩ | ⟨rfl, rfl⟩⟩ := hrel <;> obtain rfl : w = wr := hw.symm <;> clear hw
    · go_wp2_with fail
      go_roundw
      case rel => exact ⟨trivial, .inr (.inl ⟨rfl, rfl⟩)⟩
      case measure => simp [intOf]
    · go_wp2_with fail
      go_roundw
      case rel => exact ⟨trivial, .inr (.inr ⟨rfl, by go_num⟩)⟩
      case measure => simp [intOf]
    · go_wp2_with fail
      refine (hg.out _).mono ?_
      rintro e w1 ⟨C, cC, rfl, hown, hB⟩
      go_wp2_with fail
      go_loopw [6, 27] (fun s i wr => ∃ C' c', Below w.heap.size w wr ∧ ((i = .int .i64 0 ∧ s = .slice C' 0 c' ∧ wr.ownsRow w.heap.size 5 1 (.slice C' 0 c') 0 []) ∨ (i = .int .i64 1 ∧ s = .slice C' n c' ∧ wr.ownsRow w.heap.size 5 1 (.slice C' n c') n (xs.map bv)) ∨
         (i = .int .i64 2 ∧ s = .slice C' (n + m) c' ∧ wr.ownsRow w.heap.size 5 1 (.slice C' (n + m) c') (n + m) ((xs ++ ys).map bv)))) (fun _ i _ => 2 - (intOf i).toNat)
      all_goals first | (case atStart => exact ⟨C, cC, hB, .inl ⟨rfl, rfl, hown⟩⟩) | skip
      case round =>
        clear hown hB
        obtain ⟨C', c', hB, ⟨rfl, rfl, hown⟩ | ⟨rfl, rfl, hown⟩ | ⟨rfl, rfl, hown⟩⟩ := hrel
        · have d0 := bel_cell hB (cell_lt hc0) hc0
          have hR := (ha.ext (hB.mono (Nat.le_refl _)))
          go_wp2_with (at_builtin; refine wl_append rfl _ _ 29 rfl _ _ 1 1 siB w.heap.size w hB (Nat.le_refl _) C' 0 c' _ rfl hown A n c _ rfl (by simpa using hn.out) hR (bvs_one _) n (xs.map bv) (by omega) rfl (by omega) (by omega) ?_; intro A5 c5 w5 hown5 hB5 hg5 hl5)
          go_roundw
          case rel => exact ⟨A5, c5, hB5, .inr (.inl ⟨rfl, rfl, hown5⟩)⟩
          case measure => simp [intOf]
        · have d0 := bel_cell hB (cell_lt hc1) hc1
          have hR := (hb.ext (hB.mono (Nat.le_refl _)))
          go_wp2_with (at_builtin; refine wl_append rfl _ _ 29 rfl _ _ 1 1 siB w.heap.size w hB (Nat.le_refl _) C' n c' _ rfl hown B m cm _ rfl (by simpa using hm.out) hR (bvs_one _) (n + m) ((xs ++ ys).map bv) rfl (by rw [List.map_append]) (by omega) (by omega) ?_; intro A5 c5 w5 hown5 hB5 hg5 hl5)
          go_roundw
          case rel => exact ⟨A5, c5, hB5, .inr (.inr ⟨rfl, rfl, hown5⟩)⟩
          case measure => simp [intOf]
        · go_wp2
          go_ret
          exact ⟨C', _, c', rfl, rfl, hown, hB⟩
end Go.Proofs.Ytkmmaijkidkoiaa
