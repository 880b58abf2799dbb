/- A log: fresh, Create, Name. -/
import Derived.Test.YtkmmaijkidkoiaaWalB
namespace Go.Proofs.Ytkmmaijkidkoiaa
open Go Go.RowKit
variable {fp : Nat → Prop}

set_option maxRecDepth 100000 in
set_option maxHeartbeats 1000000 in
theorem fresh_c (d m : Nat) (D : Dk) (nm : ByteArray) (B : Option Addr) (nb cb : Nat) (bs : List UInt8) (w : World) (h : DiskAt fp w d m D) (hb : Rd w B (bs.map bv)) (hn : bs.length = nb) (hnb : nb ≤ 1000000000) (hoff : ∀ g o, B = some ⟨g, o, none⟩ → g ∉ [d, m]) (hnm : nm.size ≤ 1099511627776) :
   Calls Try.prog 15 #[.pointer (some ⟨d, 0, none⟩), .string nm, .slice B nb cb] w fun e w' => e = .returned (.int .i64 (D.fresh nm.data.toList bs).1) ∧ DiskAt fp w' d m (D.fresh nm.data.toList bs).2 ∧ Turn [d, m] w w' := by
  have hd := h.ltd
  have hdm := h.ltm
  have hT0 : Below w.heap.size w (((w.alloc (.cells #[.pointer (some ⟨d, 0, none⟩)] 23)).alloc (.cells #[.string nm] 9)).alloc (.cells #[.slice B nb cb] 29)) := (((Below.refl _ _).alloc (Nat.le_refl _) _).alloc (by simp) _).alloc (by simp; omega) _
  have hrm : ∀ w' E, DiskAt fp w' d m E → Calls Try.prog 36 #[.pointer (some ⟨d, 0, none⟩), .string ⟨#[116, 101, 109, 112, 46, 108, 111, 103]⟩] w' fun e w2 => e = .returned (.int .i64 (E.remove temp).1) ∧ DiskAt fp w2 d m (E.remove temp).2 ∧ Turn [d, m] w' w2 := fun w' E h' => remove_c d m E tempB w' h' (by decide)
  have hal : ∀ w' E L, DiskAt fp w' d m E → Turn [d, m] w w' → w'.cell? ⟨w.heap.size, 0, none⟩ = some (.pointer (some ⟨d, 0, none⟩)) → w'.cell? ⟨w.heap.size + 1, 0, none⟩ = some (.string nm) → w'.cell? ⟨w.heap.size + 1 + 1, 0, none⟩ = some (.slice B nb cb) →
      Rd w' (some ⟨L, 0, none⟩) [.func (.func 37) #[] #[.pointer (some ⟨w.heap.size, 0, none⟩)], .func (.func 39) #[] #[.pointer (some ⟨w.heap.size, 0, none⟩), .pointer (some ⟨w.heap.size + 1 + 1, 0, none⟩)], .func (.func 40) #[] #[.pointer (some ⟨w.heap.size, 0, none⟩)], .func (.func 41) #[] #[.pointer (some ⟨w.heap.size, 0, none⟩), .pointer (some ⟨w.heap.size + 1, 0, none⟩)]] → w.heap.size ≤ L →
      Calls Try.prog 19 #[.slice (some ⟨L, 0, none⟩) 4 4] w' fun e w2 => e = .returned (.int .i64 (E.fresh4 nm.data.toList bs).1) ∧ DiskAt fp w2 d m (E.fresh4 nm.data.toList bs).2 ∧ Turn [d, m] w' w2 := by
    intro w' E L h' ht g0 g1 g2 hL hLs
    exact fresh_all d m w.heap.size (w.heap.size + 1) (w.heap.size + 1 + 1) E nm B (some ⟨L, 0, none⟩) nb cb bs w' h' (ht.rd hb hoff) hn hnb hoff g0 g1 g2 hnm (by simp; omega) (by simp; omega) (by simp; omega) hL (by intro g o e; injection e with e; injection e with e1 e2; subst e1; simp; omega)
  have hfr : D.fresh nm.data.toList bs = if (D.remove temp).1 = 7 then D.remove temp else if ((D.remove temp).2.fresh4 nm.data.toList bs).1 ≠ 0 ∧ ((D.remove temp).2.fresh4 nm.data.toList bs).1 ≠ 7 then (((D.remove temp).2.fresh4 nm.data.toList bs).1, (((D.remove temp).2.fresh4 nm.data.toList bs).2.remove temp).2) else (D.remove temp).2.fresh4 nm.data.toList bs := rfl
  have hr0 := hrm _ D (h.ext hT0)
  generalize D.fresh nm.data.toList bs = R at *
  generalize hR1 : D.remove temp = R1 at *
  obtain ⟨r1, D1⟩ := R1
  simp only at hfr hr0
  generalize hR4 : D1.fresh4 nm.data.toList bs = R4 at *
  obtain ⟨r4, D4⟩ := R4
  simp only at hfr
  replace hrm := Lib.hid hrm
  replace hal := Lib.hid hal
  replace hr0 := Lib.hid hr0
  replace hT0 := Lib.hid hT0
  replace hR4 := Lib.hid hR4
  clear hR1 hn
  by_cases h7 : r1 = 7
  · rw [if_pos h7] at hfr
    replace hfr := Lib.hid hfr
    subst h7
    go_enter Try.func15, Try.ntmps15
    go_wp2_with fail
    refine hr0.out.mono ?_
    rintro e w2 ⟨rfl, h2, ht2⟩
    replace h2 := Lib.hid h2
    replace ht2 := Lib.hid ht2
    go_wp2
    go_ret
    exact ⟨by rw [hfr.out]; rfl, by rw [hfr.out]; exact h2.out, (Turn.ofBelow hT0.out).trans ht2.out⟩
  · rw [if_neg h7] at hfr
    go_enter Try.func15, Try.ntmps15
    replace hfr := Lib.hid hfr
    go_wp2_with fail
    refine hr0.out.mono ?_
    rintro e w2 ⟨rfl, h2, ht2⟩
    have g0 : w2.cell? ⟨w.heap.size, 0, none⟩ = some (.pointer (some ⟨d, 0, none⟩)) := ht2.cell (by go_simp) (by simp; omega)
    have g1 : w2.cell? ⟨w.heap.size + 1, 0, none⟩ = some (.string nm) := ht2.cell (by go_simp) (by simp; omega)
    have g2 : w2.cell? ⟨w.heap.size + 1 + 1, 0, none⟩ = some (.slice B nb cb) := ht2.cell (by go_simp) (by simp; omega)
    have hsz2 : w.heap.size ≤ w2.heap.size := Nat.le_trans hT0.out.size ht2.size
    have l1 : w.heap.size < w2.heap.size := cell_lt g0
    have l2 : w.heap.size + 1 < w2.heap.size := cell_lt g1
    have l3 : w.heap.size + 1 + 1 < w2.heap.size := cell_lt g2
    have hT2 := (Turn.ofBelow (S := [d, m]) hT0.out).trans ht2
    replace h2 := Lib.hid h2
    replace ht2 := Lib.hid ht2
    replace hT2 := Lib.hid hT2
    go_wp2_with fail
    have hq := hal.out _ D1 w2.heap.size (h2.out.ext ((Below.refl _ _).alloc (Nat.le_refl _) _)) (hT2.out.alloc _) (cell_alloc g0 _) (cell_alloc g1 _) (cell_alloc g2 _) (Rd.newAt w2 _ rfl [_, _, _, _] 60) hsz2
    rw [hR4.out] at hq
    refine hq.mono ?_
    rintro e w4 ⟨rfl, h4, ht4⟩
    have k0 : w4.cell? ⟨w.heap.size, 0, none⟩ = some (.pointer (some ⟨d, 0, none⟩)) := ht4.cell (cell_alloc g0 _) (by simp; omega)
    have hT4 := (hT2.out.alloc _).trans ht4
    clear hq
    replace h4 := Lib.hid h4
    replace hT4 := Lib.hid hT4
    replace ht4 := Lib.hid ht4
    by_cases h40 : r4 = 0
    · have hf := hfr.out
      rw [if_neg (by simp [h40])] at hf
      replace hf := Lib.hid hf
      subst h40
      go_wp2
      go_ret
      exact ⟨by rw [hf.out]; rfl, by rw [hf.out]; exact h4.out, hT4.out⟩
    · by_cases h47 : r4 = 7
      · have hf := hfr.out
        rw [if_neg (by simp [h47])] at hf
        replace hf := Lib.hid hf
        subst h47
        go_wp2
        go_ret
        exact ⟨by rw [hf.out]; rfl, by rw [hf.out]; exact h4.out, hT4.out⟩
      · have hf := hfr.out
        rw [if_pos ⟨h40, h47⟩] at hf
        replace hf := Lib.hid hf
        have b1 : (r4 != 0) = true := by simpa using h40
        have b2 : (r4 != 7) = true := by simpa using h47
        go_wp2_with fail
        refine (hrm.out _ D4 h4.out).mono ?_
        rintro e w5 ⟨rfl, h5, ht5⟩
        replace h5 := Lib.hid h5
        replace ht5 := Lib.hid ht5
        generalize D4.remove temp = R5 at *
        go_wp2
        go_ret
        exact ⟨by rw [hf.out]; rfl, by rw [hf.out]; exact h5.out, hT4.out.trans ht5.out⟩

/-- How a log lies in memory. -/
def LogAt (w : World) (g d : Nat) (nm : ByteArray) (last : Int) (dead : Bool) : Prop := w.ownsRow g 49 1 (.slice (some ⟨g, 0, none⟩) 4 4) 4 [.pointer (some ⟨d, 0, none⟩), .string nm, .int .i64 last, .bool dead]
theorem LogAt.turn {w w' : World} {g d : Nat} {nm : ByteArray} {last : Int} {dead : Bool} (h : LogAt w g d nm last dead) {S : List Nat} (ht : Turn S w w') (hg : g ∉ S) : LogAt w' g d nm last dead := ht.own h (fun g' hg' => by injection hg' with hg'; subst hg'; exact hg)
theorem LogAt.lt {w : World} {g d : Nat} {nm : ByteArray} {last : Int} {dead : Bool} (h : LogAt w g d nm last dead) : g < w.heap.size := (World.ownsRow.lt h g rfl).2
theorem LogAt.nb {w : World} {g d : Nat} {nm : ByteArray} {last : Int} {dead : Bool} (h : LogAt w g d nm last dead) : NB w g := NB.own h (by decide)

set_option maxRecDepth 100000 in
set_option maxHeartbeats 1000000 in
theorem lname_c (g d : Nat) (nm : ByteArray) (last : Int) (dead : Bool) (w : World) (h : LogAt w g d nm last dead) : Calls Try.prog 32 #[.pointer (some ⟨g, 0, none⟩)] w fun e w' => e = .returned (.string nm) ∧ w' = w := by
  have c1 : w.cell? ⟨g, 1, none⟩ = some (.string nm) := World.ownsRow.cellAt h 1 (by omega)
  go_enter Try.func32, Try.ntmps32
  go_wp2
  go_ret
  exact ⟨rfl, rfl⟩

set_option maxRecDepth 100000 in
set_option maxHeartbeats 1000000 in
theorem lcreate_c (d m : Nat) (D : Dk) (nm : ByteArray) (w : World) (h : DiskAt fp w d m D) (hnm : nm.size ≤ 1099511627776) (h0 : (D.fresh nm.data.toList []).1 = 0) :
   Calls Try.prog 6 #[.pointer (some ⟨d, 0, none⟩), .string nm] w fun e w' => ∃ g, e = .returned (.tuple #[.pointer (some ⟨g, 0, none⟩), .int .i64 0]) ∧ w.heap.size ≤ g ∧ LogAt w' g d nm 0 false ∧ DiskAt fp w' d m (D.fresh nm.data.toList []).2 ∧ Turn [d, m] w w' := by
  have hf := fresh_c d m D nm none 0 0 [] w h (Rd.nil _ _) rfl (by omega) (by intro g o e; simp at e) hnm
  rw [h0] at hf
  generalize (D.fresh nm.data.toList []).2 = D' at *
  have hd := h.ltd
  have hdm := h.ltm
  replace hf := Lib.hid hf
  clear h0
  go_enter Try.func6, Try.ntmps6
  go_wp2_with fail
  refine hf.out.mono ?_
  rintro e w2 ⟨rfl, h2, ht2⟩
  have hsz := ht2.size
  replace h2 := Lib.hid h2
  replace ht2 := Lib.hid ht2
  go_wp2
  go_ret2
  refine ⟨w2.heap.size, rfl, hsz, own_newAt w2 _ _ 1 4 [_, _, _, _] _ rfl (Nat.le_refl _) (by decide) rfl, h2.out.ext ((Below.refl _ _).alloc (Nat.le_refl _) _), ht2.out.alloc _⟩
end Go.Proofs.Ytkmmaijkidkoiaa
