/- The disk: what an append does, what a new name does. -/
import Derived.Test.YtkmmaijkidkoiaaDskG
import Derived.Deep.RegionHeld3
namespace Go.Proofs.Ytkmmaijkidkoiaa
open Go Go.RowKit
variable {fp : Nat → Prop}

theorem Turn.nb {S : List Nat} {a b : World} (h : Turn S a b) {x : Nat} (hx : x ∉ S) (hlt : x < a.heap.size) (hn : NB a x) : NB b x := fun arr fz e => hn arr fz ((h.block x hlt hx).symm.trans e)

set_option maxRecDepth 100000 in
set_option maxHeartbeats 1000000 in
theorem append1_c (d m bd bn bb : Nat) (D : Dk) (s : ByteArray) (B : Option Addr) (nb cb : Nat) (bs : List UInt8) (w : World) (h : DiskAt fp w d m D) (hs : s.size ≤ 1099511627776) (gd : w.cell? ⟨bd, 0, none⟩ = some (.pointer (some ⟨d, 0, none⟩))) (gn : w.cell? ⟨bn, 0, none⟩ = some (.string s))
   (gb : w.cell? ⟨bb, 0, none⟩ = some (.slice B nb cb)) (hb : Rd w B (bs.map bv)) (hn : bs.length = nb) (hh : D.F.has s.data.toList = true) (hu : D.F.used + nb ≤ 16777216) (n1 : bd ≠ d) (n2 : bn ≠ d) (n3 : bb ≠ d) :
   Calls Try.prog 47 #[.pointer (some ⟨bd, 0, none⟩), .pointer (some ⟨bn, 0, none⟩), .pointer (some ⟨bb, 0, none⟩)] w fun e w' => e = .returned (.tuple #[]) ∧ DiskAt fp w' d m ⟨D.F.put ⟨s.data.toList, (D.F.get s.data.toList).bs ++ bs, (D.F.get s.data.toList).safe⟩, D.q, D.left, D.down⟩ ∧ Turn [d, m] w w' := by
  have c0 := h.c0
  obtain ⟨es, v, hown, hat, _, A, n, c, rfl, hln, hnc, hrd, hbr⟩ := h.look s.data.toList
  have hle : n ≤ 16777216 := by rw [← hln]; exact Nat.le_trans Files.get_len h.ok.used
  have hsf : (D.F.get s.data.toList).safe ≤ n := by
    have : D.F.get s.data.toList ∈ D.F := by
      unfold Files.get
      cases hf : D.F.find? fun f => f.nm == s.data.toList with
      | none =>
        rw [List.find?_eq_none] at hf
        obtain ⟨f, h1, h2⟩ := List.any_eq_true.1 hh
        exact absurd h2 (hf f h1)
      | some f => exact List.mem_of_find?_eq_some hf
    rw [← hln]
    exact h.ok.safe _ this
  have hS : ∀ w', Below w.heap.size w w' → w'.cell? ⟨bd, 0, none⟩ = some (.pointer (some ⟨d, 0, none⟩)) ∧ w'.cell? ⟨bn, 0, none⟩ = some (.string s) ∧ w'.cell? ⟨bb, 0, none⟩ = some (.slice B nb cb) ∧ w'.cell? ⟨d, 0, none⟩ = some (.map (some m)) ∧
      (Instr.lookup 44 (.map (some m)) (.string s) false).run Try.prog w' = .ok (.agg #[.slice A n c, .int .i64 ((D.F.get s.data.toList).safe : Int)]) w' := by
    intro w' hB
    refine ⟨bel_cell hB (cell_lt gd) gd, bel_cell hB (cell_lt gn) gn, bel_cell hB (cell_lt gb) gb, bel_cell hB (cell_lt c0) c0, ?_⟩
    exact run_look1 w' 44 9 67 strK Try.underlying44 (zero_file _) m _ _ (Turn.map (S := []) (.ofBelow hB) hown (by simp)) (.string s) _ (skey s (by omega)) _ hat
  have hp : ∀ w', Below w.heap.size w w' → ∀ C N cN, N = n + nb → w'.ownsRow w.heap.size 5 1 (.slice C N cN) N (((D.F.get s.data.toList).bs ++ bs).map bv) → ∃ w2, (Instr.mapUpdate 44 (.map (some m)) (.string s) (.agg #[.slice C N cN, .int .i64 ((D.F.get s.data.toList).safe : Int)])).run Try.prog w' = .ok () w2 ∧
      DiskAt fp w2 d m ⟨D.F.put ⟨s.data.toList, (D.F.get s.data.toList).bs ++ bs, (D.F.get s.data.toList).safe⟩, D.q, D.left, D.down⟩ ∧ Turn [d, m] w w2 := by
    intro w' hB C N cN hN ho
    subst hN
    have h' := h.ext hB
    obtain ⟨w2, hrun, h2, ht⟩ := h'.putRun s hs (.agg #[.slice C (n + nb) cN, .int .i64 ((D.F.get s.data.toList).safe : Int)]) ((D.F.get s.data.toList).bs ++ bs) (D.F.get s.data.toList).safe (.own ho h.up) (by simp only [List.length_append, hn]; omega) (.inl hh) (by simp only [List.length_append]; omega)
    exact ⟨w2, hrun, h2, (Turn.ofBelow hB).trans ht⟩
  have hc : ∀ w' L, Below w.heap.size w w' → Rd w' L [.slice A n c, .slice B nb cb] → Calls Try.prog 48 #[.slice L 2 2] w' fun e w2 => ∃ C N cN, e = .returned (.slice C N cN) ∧ N = n + nb ∧ w2.ownsRow w'.heap.size 5 1 (.slice C N cN) N (((D.F.get s.data.toList).bs ++ bs).map bv) ∧ Below w'.heap.size w' w2 := by
    intro w' L hB hL
    exact concat_c L A B n c nb cb _ bs w' hL (hrd.ext hB) (hb.ext hB) hln hn (by omega)
  have hf0 := fun w => run_field0 w A n c ((D.F.get s.data.toList).safe : Int)
  have hf1 := fun w => run_field1 w A n c ((D.F.get s.data.toList).safe : Int)
  have hm : ∀ b u, w.cell? ⟨b, 0, none⟩ = some u → b ≠ d → b ∉ [d, m] := by
    intro b u hc' hne hmem
    simp at hmem
    rcases hmem with rfl | rfl
    · exact hne rfl
    · obtain ⟨ms, cl, hmm, _⟩ := hown
      simp [World.cell?, hmm] at hc'
  have hm1 := hm bd _ gd n1
  have hm2 := hm bn _ gn n2
  have hm3 := hm bb _ gb n3
  clear hown hat hln hbr h hh hrd hb hn hm
  obtain ⟨_, _, _, _, hl0⟩ := hS _ (Below.refl _ _).drew
  obtain ⟨_, _, _, _, hl1⟩ := hS (w.alloc (Obj.cells #[.slice A n c, .slice B nb cb] 29)).drew ((Below.refl _ _).alloc (Nat.le_refl _) _).drew
  have hT : ∀ w4, Turn [d, m] w w4 → DiskAt fp w4 d m ⟨D.F.put ⟨s.data.toList, (D.F.get s.data.toList).bs ++ bs, (D.F.get s.data.toList).safe⟩, D.q, D.left, D.down⟩ → w4.cell? ⟨bd, 0, none⟩ = some (.pointer (some ⟨d, 0, none⟩)) ∧ w4.cell? ⟨bn, 0, none⟩ = some (.string s) ∧ w4.cell? ⟨bb, 0, none⟩ = some (.slice B nb cb) ∧ w4.cell? ⟨d, 0, none⟩ = some (.map (some m)) :=
    fun w4 ht h4 => ⟨ht.cell gd hm1, ht.cell gn hm2, ht.cell gb hm3, h4.c0⟩
  have hS' : ∀ w', Below w.heap.size w w' → w'.cell? ⟨bd, 0, none⟩ = some (.pointer (some ⟨d, 0, none⟩)) ∧ w'.cell? ⟨bn, 0, none⟩ = some (.string s) ∧ w'.cell? ⟨bb, 0, none⟩ = some (.slice B nb cb) ∧ w'.cell? ⟨d, 0, none⟩ = some (.map (some m)) := fun w' hB => ⟨(hS w' hB).1, (hS w' hB).2.1, (hS w' hB).2.2.1, (hS w' hB).2.2.2.1⟩
  replace hS := Lib.hid hS
  replace hS' := Lib.hid hS'
  replace hT := Lib.hid hT
  replace hp := Lib.hid hp
  replace hc := Lib.hid hc
  go_enter Try.func47, Try.ntmps47
  go_wp2
  go_region_held3 (fun w' => w'.cell? ⟨bd, 0, none⟩ = some (.pointer (some ⟨d, 0, none⟩)) ∧ w'.cell? ⟨bn, 0, none⟩ = some (.string s) ∧ w'.cell? ⟨bb, 0, none⟩ = some (.slice B nb cb) ∧ w'.cell? ⟨d, 0, none⟩ = some (.map (some m)))
    (first
      | exact hS'.out _ (Below.refl _ _).drew
      | exact hS'.out _ (((Below.refl _ _).drew).alloc (Nat.le_refl _) _)
      | exact hS'.out _ (((Below.refl _ _).alloc (Nat.le_refl _) _).drew)
      | exact hS'.out _ hB3.out
      | exact hT.out _ ht4.out h4.out)
    ((go_at_call 48; refine (hc.out _ _ (((Below.refl _ _).alloc (Nat.le_refl _) _).drew) (Rd.newAt w _ rfl [_, _] _)).mono ?_; rintro e w3 ⟨C, N, cN, rfl, hN, hown3, hB3⟩; replace hB3 := Lib.hid ((((Below.refl _ _).alloc (Nat.le_refl _) _).drew).trans (hB3.mono (by simp))); obtain ⟨_, _, _, _, hl3⟩ := hS.out _ hB3.out; obtain ⟨w4, hrun, h4, ht4⟩ := hp.out _ hB3.out C N cN hN (own_base hown3 (by simp)); replace h4 := Lib.hid h4; replace ht4 := Lib.hid ht4; replace hown3 := Lib.hid hown3; replace hN := Lib.hid hN))
  all_goals go_wp2
  all_goals go_end0
  all_goals exact ⟨rfl, h4.out, ht4.out⟩
end Go.Proofs.Ytkmmaijkidkoiaa
