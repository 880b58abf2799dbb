/- A log: what an append calls. -/
import Derived.Test.YtkmmaijkidkoiaaWalC
namespace Go.Proofs.Ytkmmaijkidkoiaa
open Go Go.RowKit
variable {fp : Nat → Prop}

theorem gbytes_len (ep : Int) (l : List Ver) (n : Nat) (hn : l.length = n) (hnb : n ≤ 1000) (h : ∀ v ∈ l, v.Fit) (h1 : ep ≤ 10000) : (gbytes ep l).length ≤ 20 + 200100 * n := by
  have := vlist_len l n hn hnb h
  have h10 : (putI ep).length ≤ 10 := putN_len10 _ (by omega)
  rw [gbytes, List.length_append]
  omega

set_option maxRecDepth 100000 in
set_option maxHeartbeats 1000000 in
theorem lapp1_c (d m g bl bg : Nat) (D : Dk) (nm : ByteArray) (last : Int) (dead : Bool) (ep : Int) (A : Option Addr) (n c : Nat) (l : List Ver) (w : World) (h : DiskAt fp w d m D) (hlog : LogAt w g d nm last dead) (hnm : nm.size ≤ 1099511627776)
   (gl : w.cell? ⟨bl, 0, none⟩ = some (.pointer (some ⟨g, 0, none⟩))) (g0 : w.cell? ⟨bg, 0, none⟩ = some (.int .i64 ep)) (g1 : w.cell? ⟨bg, 1, none⟩ = some (.slice A n c))
   (hA : Rd w A (l.flatMap Ver.cells)) (hn : l.length = n) (hnb : n ≤ 1000) (hv : ∀ v ∈ l, v.okv = true ∧ v.key.size ≤ 100000) (h0 : 0 ≤ ep) (h1 : ep ≤ 10000) (nl : bl ∉ [d, m]) (ng : bg ∉ [d, m]) (n0 : g ∉ [d, m]) :
   Calls Try.prog 20 #[.pointer (some ⟨bl, 0, none⟩), .pointer (some ⟨bg, 0, none⟩)] w fun e w' => e = .returned (.int .i64 (D.append nm.data.toList (frame (gbytes ep l))).1) ∧ DiskAt fp w' d m (D.append nm.data.toList (frame (gbytes ep l))).2 ∧ Turn [d, m] w w' := by
  have c0 : w.cell? ⟨g, 0, none⟩ = some (.pointer (some ⟨d, 0, none⟩)) := World.ownsRow.cellAt hlog 0 (by omega)
  have c1 : w.cell? ⟨g, 1, none⟩ = some (.string nm) := World.ownsRow.cellAt hlog 1 (by omega)
  have hw := fun w hA => walwrite_c ep A n c l w hA hn hnb hv h0 h1
  have hlen := gbytes_len ep l n hn hnb (fun v hm => okv_fit (hv v hm).1 (hv v hm).2) h1
  have hfl := frame_len (gbytes ep l)
  have hcf := fun L B m cm w hL hb hm hl => cframe_c L B m cm (gbytes ep l) w hL hb hm hl
  have hap := fun w' B nb cb h' hb hn' hnb hoff => append_c (fp := fp) d m D nm B nb cb (frame (gbytes ep l)) w' h' hnm hb hn' hnb hoff
  generalize D.append nm.data.toList (frame (gbytes ep l)) = R at *
  generalize frame (gbytes ep l) = FB at *
  generalize gbytes ep l = GB at *
  replace hw := Lib.hid hw
  replace hcf := Lib.hid hcf
  replace hap := Lib.hid hap
  replace hfl := Lib.hid hfl
  clear hn hv
  have hd := h.ltd
  have hdm := h.ltm
  go_enter Try.func20, Try.ntmps20
  go_wp2
  have hA' : Rd w.drew A (l.flatMap Ver.cells) := hA.drew
  have hB0 : Below w.heap.size w w.drew := (Below.refl _ _).drew
  have hS : ∀ w', Below w.heap.size w w' → w'.cell? ⟨bl, 0, none⟩ = some (.pointer (some ⟨g, 0, none⟩)) ∧ w'.cell? ⟨bg, 0, none⟩ = some (.int .i64 ep) ∧ w'.cell? ⟨bg, 1, none⟩ = some (.slice A n c) ∧ w'.cell? ⟨g, 0, none⟩ = some (.pointer (some ⟨d, 0, none⟩)) ∧ w'.cell? ⟨g, 1, none⟩ = some (.string nm) :=
    fun w' hB => ⟨bel_cell hB (cell_lt gl) gl, bel_cell hB (cell_lt g0) g0, bel_cell hB (cell_lt g1) g1, bel_cell hB (cell_lt c0) c0, bel_cell hB (cell_lt c1) c1⟩
  have hT : ∀ w', Turn [d, m] w w' → w'.cell? ⟨bl, 0, none⟩ = some (.pointer (some ⟨g, 0, none⟩)) ∧ w'.cell? ⟨bg, 0, none⟩ = some (.int .i64 ep) ∧ w'.cell? ⟨bg, 1, none⟩ = some (.slice A n c) ∧ w'.cell? ⟨g, 0, none⟩ = some (.pointer (some ⟨d, 0, none⟩)) ∧ w'.cell? ⟨g, 1, none⟩ = some (.string nm) :=
    fun w' hB => ⟨hB.cell gl nl, hB.cell g0 ng, hB.cell g1 ng, hB.cell c0 n0, hB.cell c1 n0⟩
  replace hS := Lib.hid hS
  replace hT := Lib.hid hT
  go_region_held3 (fun w' => w'.cell? ⟨bl, 0, none⟩ = some (.pointer (some ⟨g, 0, none⟩)) ∧ w'.cell? ⟨bg, 0, none⟩ = some (.int .i64 ep) ∧ w'.cell? ⟨bg, 1, none⟩ = some (.slice A n c) ∧ w'.cell? ⟨g, 0, none⟩ = some (.pointer (some ⟨d, 0, none⟩)) ∧ w'.cell? ⟨g, 1, none⟩ = some (.string nm))
    (first
      | exact hS.out _ hB0
      | exact hS.out _ hB1'
      | exact hS.out _ (hB1'.alloc hB1'.size _)
      | exact hS.out _ hB2'
      | exact hT.out _ ht3.out)
    ((first
      | (go_at_call 23; refine (hw.out _ hA').mono ?_; rintro e w1 ⟨A1, N1, cc1, rfl, hN1, hown1, hB1⟩; have hB1' := hB0.trans hB1; have hR1 := Rd.of_own hown1; have hN1b : N1 ≤ 20 + 200100 * n := (by omega); replace hN1 := Lib.hid hN1; replace hown1 := Lib.hid hown1)
      | (go_at_call 22; refine (hcf.out _ A1 N1 cc1 _ (Rd.new1 w1 _ _ _ rfl) (hR1.ext ((Below.refl _ _).alloc (Nat.le_refl _) _)) hN1.out.symm (by omega)).mono ?_; rintro e w2 ⟨A2, cc2, rfl, hown2, hB2⟩; have hB2' := hB1'.trans (((Below.refl _ _).alloc (Nat.le_refl _) _).trans (hB2.mono (by simp)) |>.mono hB1'.size); have hR2 := Rd.of_own hown2; have h2 := h.ext hB2'; have hoff : ∀ gg o, A2 = some ⟨gg, o, none⟩ → gg ∉ [d, m] := (by intro gg o e; subst e; exact h2.offOwn hown2 gg rfl); replace hown2 := Lib.hid hown2)
      | (go_at_call 21; refine (hap.out w2 A2 (8 + N1) cc2 h2 hR2 (by rw [hfl.out, hN1.out]) (by omega) hoff).mono ?_; rintro e w3 ⟨rfl, h3, ht3⟩; replace h3 := Lib.hid h3; replace ht3 := Lib.hid ((Turn.ofBelow hB2').trans ht3))))
  all_goals go_wp2
  all_goals go_ret
  all_goals exact ⟨rfl, h3.out, ht3.out⟩

set_option maxRecDepth 100000 in
set_option maxHeartbeats 1000000 in
theorem lapp2_c (d m g bl : Nat) (D : Dk) (nm : ByteArray) (last : Int) (dead : Bool) (w : World) (h : DiskAt fp w d m D) (hlog : LogAt w g d nm last dead) (hnm : nm.size ≤ 1099511627776)
   (gl : w.cell? ⟨bl, 0, none⟩ = some (.pointer (some ⟨g, 0, none⟩))) :
   Calls Try.prog 24 #[.pointer (some ⟨bl, 0, none⟩)] w fun e w' => e = .returned (.int .i64 (D.sync nm.data.toList).1) ∧ DiskAt fp w' d m (D.sync nm.data.toList).2 ∧ Turn [d, m] w w' := by
  have c0 : w.cell? ⟨g, 0, none⟩ = some (.pointer (some ⟨d, 0, none⟩)) := World.ownsRow.cellAt hlog 0 (by omega)
  have c1 : w.cell? ⟨g, 1, none⟩ = some (.string nm) := World.ownsRow.cellAt hlog 1 (by omega)
  have hs := sync_c d m D nm w.drew h.drew hnm
  generalize D.sync nm.data.toList = R at *
  replace hs := Lib.hid hs
  go_enter Try.func24, Try.ntmps24
  go_wp2
  go_still_tail 8, (by kernel_rfl)
  change wpList _ _ _ _ _ w.drew
  go_wp2_with fail
  refine hs.out.mono ?_
  rintro e w3 ⟨rfl, h3, ht3⟩
  replace h3 := Lib.hid h3
  replace ht3 := Lib.hid ht3
  go_wp2
  go_ret
  exact ⟨rfl, h3.out, ((Turn.refl _ _).drew).trans ht3.out⟩
end Go.Proofs.Ytkmmaijkidkoiaa
