/- The document's cuts of a version and of a group. -/
import Derived.Test.YtkmmaijkidkoiaaGrpA
namespace Go.Proofs.Ytkmmaijkidkoiaa
open Go Go.RowKit

set_option maxRecDepth 100000 in
set_option maxHeartbeats 1000000 in
theorem rcut_c (v : Ver) (w : World) (hk : v.key.size ≤ 140737488355328) (hv : v.val.size ≤ 140737488355328) :
   Calls Try.prog 16 #[v.agg] w fun e w' => e = .returned v.cut.agg ∧ Below w.heap.size w w' := by
  rcases v with ⟨key, br, ep, sq, fr, too, val, gone⟩
  simp only at hk hv
  have hcut : (Ver.cut ⟨key, br, ep, sq, fr, too, val, gone⟩).agg = .agg #[.string (cutS key 110), .int .i64 br, .int .i64 ep, .int .i64 sq, .int .i64 fr, .int .i64 too, .string (cutS val 210), .bool gone] := rfl
  have e1 : 110 < key.size ∨ cutS key 110 = key := by
    by_cases h : 110 < key.size
    · exact .inl h
    · exact .inr (cutS_le _ _ (by omega))
  have e2 : 210 < val.size ∨ cutS val 210 = val := by
    by_cases h : 210 < val.size
    · exact .inl h
    · exact .inr (cutS_le _ _ (by omega))
  have d1 : cutS key 110 = key.extract 0 110 := rfl
  have d2 : cutS val 210 = val.extract 0 210 := rfl
  replace hcut := Lib.hid hcut
  by_cases h1 : 110 < key.size
  all_goals
    by_cases h2 : 210 < val.size
    all_goals
      have k1 := e1
      have k2 := e2
      replace k1 := Lib.hid k1
      replace k2 := Lib.hid k2
      replace d1 := Lib.hid d1
      replace d2 := Lib.hid d2
      clear e1 e2
      go_enter Try.func16, Try.ntmps16
      go_wp2
      refine bodyPost_ret (v := .agg #[.string (cutS key 110), .int .i64 br, .int .i64 ep, .int .i64 sq, .int .i64 fr, .int .i64 too, .string (cutS val 210), .bool gone]) ?_ rfl ⟨by rw [hcut.out], ?_⟩
      · first | rw [k1.out.resolve_left h1] | rw [d1.out]
        first | rw [k2.out.resolve_left h2] | rw [d2.out]
        simp [results, Try.results16, go_sem]
      · exact ((Below.refl _ _).alloc (Nat.le_refl _) _).alloc (by simp) _

/-- What the reference cuts off a group's rows: the first 4, each of few bytes and of the group's epoch. -/
def gcut (ep : Int) (l : List Ver) : List Ver := (l.take 4).map fun v => { v.cut with ep := ep }
theorem gcut_len (ep : Int) (l : List Ver) : (gcut ep l).length ≤ 4 := by simp [gcut]; omega

theorem own_newAt (w : World) (base : Nat) (e : TypeId) (size n : Nat) (cs : List Value) (g : Nat) (hg : w.heap.size = g) (hb : base ≤ g) (hn : n ≤ maxLen) (hl : cs.length = n * size) :
    (w.alloc (.cells cs.toArray e)).ownsRow base e size (.slice (some ⟨g, 0, none⟩) n n) n cs := by
  subst hg
  exact own_new w base e size n cs hb hn hl
theorem own_bel {w w' : World} {base n B g c : Nat} {e : TypeId} {size : Nat} {xs : List Value} (h : w.ownsRow base e size (.slice (some ⟨g, 0, none⟩) n c) n xs) (hb : Below B w w') (hlt : g < B) : w'.ownsRow base e size (.slice (some ⟨g, 0, none⟩) n c) n xs := by
  refine ⟨h.1, ?_⟩
  rcases h.2 with h2 | ⟨g', cap, cur, hv, hg, hh, r⟩
  · exact .inl h2
  · injection hv with hv1 hv2 hv3
    injection hv1 with hv1
    injection hv1 with hv1
    subst hv1 hv3
    exact .inr ⟨g, c, cur, rfl, hg, (hb.block g hlt).trans hh, r⟩
theorem siV : SlInfo Try.prog 30 55 (.agg #[.string ⟨#[]⟩, .int .i64 0, .int .i64 0, .int .i64 0, .int .i64 0, .int .i64 0, .string ⟨#[]⟩, .bool false]) 8 80 := ⟨Try.underlying30, by kernel_rfl, rfl, by omega⟩
theorem cells_one (l : List Ver) : ∀ u ∈ l.flatMap Ver.cells, u.oneCell' = true := by
  intro u hu
  obtain ⟨v, _, hv⟩ := List.mem_flatMap.1 hu
  simp only [Ver.cells, List.mem_cons, List.not_mem_nil, or_false] at hv
  rcases hv with rfl | rfl | rfl | rfl | rfl | rfl | rfl | rfl <;> rfl
def vcut (ep : Int) (v : Ver) : Ver := { v.cut with ep := ep }
theorem gcut_step (ep : Int) (l : List Ver) (k : Nat) (h : k < l.length) : ((l.take (k + 1)).map (vcut ep)).flatMap Ver.cells = ((l.take k).map (vcut ep)).flatMap Ver.cells ++ (vcut ep (l.getD k ver0)).cells := by
  rw [List.take_succ_eq_append_getElem h, List.map_append, List.flatMap_append, List.getD_eq_getElem?_getD, List.getElem?_eq_getElem h]
  simp

set_option maxRecDepth 100000 in
set_option maxHeartbeats 1000000 in
theorem rgcut_c (ep : Int) (A : Option Addr) (n c : Nat) (l : List Ver) (w : World) (hA : Rd w A (l.flatMap Ver.cells)) (hn : l.length = n) (hnb : n ≤ 140737488355328) (hv : ∀ v ∈ l, v.key.size ≤ 140737488355328 ∧ v.val.size ≤ 140737488355328) :
   Calls Try.prog 7 #[.agg #[.int .i64 ep, .slice A n c]] w fun e w' => ∃ A' N c', e = .returned (.agg #[.int .i64 ep, .slice A' N c']) ∧ N = (gcut ep l).length ∧ w'.ownsRow w.heap.size 55 8 (.slice A' N c') N ((gcut ep l).flatMap Ver.cells) ∧ Below w.heap.size w w' := by
  replace hn := Lib.hid hn
  replace hv := Lib.hid hv
  have hg : gcut ep l = (l.take 4).map (vcut ep) := rfl
  replace hg := Lib.hid hg
  go_enter Try.func7, Try.ntmps7
  go_wp2_with fail
  go_loopw [4] (fun i wr => ∃ (k : Nat) (A' : Option Addr) (c' : Nat), k ≤ n ∧ k ≤ 4 ∧ i = .int .i64 (k : Int) ∧
      wr.ownsRow w.heap.size 32 1 (.slice (some ⟨w.heap.size, 0, none⟩) 2 2) 2 [.int .i64 ep, .slice A n c] ∧
      wr.ownsRow w.heap.size 32 1 (.slice (some ⟨w.heap.size + 1, 0, none⟩) 2 2) 2 [.int .i64 0, .slice none 0 0] ∧
      wr.ownsRow w.heap.size 32 1 (.slice (some ⟨w.heap.size + 1 + 1, 0, none⟩) 2 2) 2 [.int .i64 ep, .slice A' k c'] ∧
      wr.ownsRow (w.heap.size + 3) 55 8 (.slice A' k c') k (((l.take k).map (vcut ep)).flatMap Ver.cells) ∧ Below w.heap.size w wr ∧ w.heap.size + 3 ≤ wr.heap.size) (fun i _ => 4 - (intOf i).toNat)
  case atStart =>
    refine ⟨0, none, 0, by omega, by omega, rfl, ?_, ?_, ?_, World.ownsRow_nil _ _ _ _, (((Below.refl _ _).alloc (Nat.le_refl _) _).alloc (by simp) _).alloc (by simp; omega) _, by simp⟩
    · exact ((own_newAt w w.heap.size _ 1 2 [_, _] _ rfl (Nat.le_refl _) (by decide) rfl).alloc _).alloc _
    · exact (own_newAt _ w.heap.size _ 1 2 [_, _] _ (by simp) (by omega) (by decide) rfl).alloc _
    · exact (own_newAt _ w.heap.size _ 1 2 [_, _] _ (by simp) (by omega) (by decide) rfl)
  case round =>
    obtain ⟨k, A', c', hkn, hk4, rfl, h0, h1, h2, hown, hB, hsz⟩ := hrel
    have a0 : wr.cell? ⟨w.heap.size, 0, none⟩ = some (.int .i64 ep) := h0.cellAt 0 (by omega)
    have a1 : wr.cell? ⟨w.heap.size, 1, none⟩ = some (.slice A n c) := h0.cellAt 1 (by omega)
    have b0 : wr.cell? ⟨w.heap.size + 1 + 1, 0, none⟩ = some (.int .i64 ep) := h2.cellAt 0 (by omega)
    have b1 : wr.cell? ⟨w.heap.size + 1 + 1, 1, none⟩ = some (.slice A' k c') := h2.cellAt 1 (by omega)
    by_cases hlt : k < n ∧ k < 4
    · obtain ⟨hlt1, hlt2⟩ := hlt
      have hlt' : k < l.length := by rw [hn.out]; exact hlt1
      obtain ⟨b, o, rfl, q0, q1, q2, q3, q4, q5, q6, q7⟩ := (hA.ext hB).ver hlt'
      have hvk := hv.out (l.getD k ver0) (by rw [List.getD_eq_getElem?_getD, List.getElem?_eq_getElem hlt']; simp)
      have hst := gcut_step ep l k hlt'
      replace hst := Lib.hid hst
      clear hlt'
      generalize l.getD k ver0 = v at *
      go_wp2_with fail
      refine (rcut_c v _ hvk.1 hvk.2).mono ?_
      rintro e w2 ⟨rfl, hB2⟩
      have ca0 := bel_cell hB2 (cell_lt a0) a0
      have ca1 := bel_cell hB2 (cell_lt a1) a1
      have cb0 := bel_cell hB2 (cell_lt b0) b0
      have cb1 := bel_cell hB2 (cell_lt b1) b1
      have hB2' : Below (w.heap.size + 3) wr w2 := hB2.mono hsz
      have hown2 := own_ext hown hB2
      have hcz : w.heap.size + 3 ≤ w2.heap.size := Nat.le_trans hsz hB2.size
      have hz0 : w.heap.size < w2.heap.size := by omega
      have hz2 : w.heap.size + 1 + 1 < w2.heap.size := by omega
      have hv1 : (vcut ep v).cells = [.string v.cut.key, .int .i64 v.cut.br, .int .i64 ep, .int .i64 v.cut.sq, .int .i64 v.cut.fr, .int .i64 v.cut.to, .string v.cut.val, .bool v.cut.gone] := rfl
      replace hv1 := Lib.hid hv1
      replace h0 := Lib.hid h0
      replace h1 := Lib.hid h1
      replace h2 := Lib.hid h2
      clear hown a0 a1 b0 b1 q0 q1 q2 q3 q4 q5 q6 q7
      go_wp2_with (at_builtin; refine wl_append rfl _ _ 30 rfl 55 _ 8 80 siV (w.heap.size + 3) wr ((hB2'.alloc hcz _).alloc (by simp; omega) _) hsz A' k c' _ rfl ((hown2.alloc _).alloc _) (some ⟨w2.heap.size + 1, 0, none⟩) 1 1 [_, _, _, _, _, _, _, _] rfl rfl (Rd.newAt _ _ (by simp) [_, _, _, _, _, _, _, _] _) (by intro u hu; simp only [List.mem_cons, List.not_mem_nil, or_false] at hu; rcases hu with rfl | rfl | rfl | rfl | rfl | rfl | rfl | rfl <;> rfl) (k + 1) (((l.take (k + 1)).map (vcut ep)).flatMap Ver.cells) rfl (by rw [hst.out, hv1.out]) (by omega) (by omega) ?_; intro A5 c5 w5 hown5 hB5 hg5 hl5; have h0' := own_bel h0.out hB5 (by omega); have h1' := own_bel h1.out hB5 (by omega); have h2' := own_bel h2.out hB5 (by omega); have z1 := h2'.cellAt 1 (by omega); have zf := h2'.frozenAt 1; replace h0' := Lib.hid h0'; replace h1' := Lib.hid h1'; replace h2' := Lib.hid h2')
      have hgr := (h2'.out.stored 1 (.slice A5 (k + 1) c5)).2
      have hst2 := (h2'.out.stored 1 (.slice A5 (k + 1) c5)).1
      go_roundw
      case rel =>
        refine ⟨k + 1, A5, c5, by omega, by omega, by go_num, h0'.out.kept hgr (.inr (by simp [Value.ownBlock] <;> omega)), h1'.out.kept hgr (.inr (by simp [Value.ownBlock] <;> omega)), hst2, hown5.kept hgr (.inr ?_), (hB.trans (hB5.mono (by omega))).setCell (by simp; omega) _, ?_⟩
        · intro e
          have := (hown5.lt _ e).1
          omega
        · have := hB5.size
          simp
          omega
      case measure => simp [intOf]; omega
    · have hk : k = (l.take 4).length := by rw [List.length_take, hn.out]; omega
      have htk : l.take k = l.take 4 := by
        by_cases h : k = 4
        · rw [h]
        · rw [List.take_of_length_le (by rw [hn.out]; omega), List.take_of_length_le (by rw [hn.out]; omega)]
      rw [htk, ← hg.out] at hown
      have hlen : k = (gcut ep l).length := by rw [hg.out, List.length_map]; exact hk
      have d0 : wr.cell? ⟨w.heap.size + 1, 0, none⟩ = some (.int .i64 0) := h1.cellAt 0 (by omega)
      have d1 : wr.cell? ⟨w.heap.size + 1, 1, none⟩ = some (.slice none 0 0) := h1.cellAt 1 (by omega)
      have f0 := h1.frozenAt 0
      have f1 := h1.frozenAt 1
      have s1 := h1.stored 0 (.int .i64 ep)
      have s2 := s1.1.stored 1 (.slice A' k c')
      have e0 := s2.1.cellAt 0 (by omega)
      have e1 := s2.1.cellAt 1 (by omega)
      have e2 : (wr.setCell ⟨w.heap.size + 1, 0, none⟩ (.int .i64 ep)).cell? ⟨w.heap.size + 1, 0, none⟩ = some (.int .i64 ep) := s1.1.cellAt 0 (by omega)
      have hown' := (hown.kept s1.2 (.inr (fun e => by have := (hown.lt _ e).1; omega))).kept s2.2 (.inr (fun e => by have := (hown.lt _ e).1; omega))
      have hBB := (hB.setCell (p := ⟨w.heap.size + 1, 0, none⟩) (by simp) (.int .i64 ep)).setCell (p := ⟨w.heap.size + 1, 1, none⟩) (by simp) (.slice A' k c')
      have hx : ¬ (k < n) ∨ ¬ (k < 4) := by omega
      replace e0 : ((wr.setCell ⟨w.heap.size + 1, 0, none⟩ (.int .i64 ep)).setCell ⟨w.heap.size + 1, 1, none⟩ (.slice A' k c')).cell? ⟨w.heap.size + 1, 0, none⟩ = some (.int .i64 ep) := e0
      replace e1 : ((wr.setCell ⟨w.heap.size + 1, 0, none⟩ (.int .i64 ep)).setCell ⟨w.heap.size + 1, 1, none⟩ (.slice A' k c')).cell? ⟨w.heap.size + 1, 1, none⟩ = some (.slice A' k c') := e1
      replace s1 := Lib.hid s1
      replace s2 := Lib.hid s2
      replace hown' := Lib.hid hown'
      replace hown := Lib.hid hown
      replace hBB := Lib.hid hBB
      replace h0 := Lib.hid h0
      replace h1 := Lib.hid h1
      replace h2 := Lib.hid h2
      replace hlen := Lib.hid hlen
      replace hk := Lib.hid hk
      replace htk := Lib.hid htk
      replace hlt := Lib.hid hlt
      by_cases hkn2 : k < n
      all_goals
        have hx' := hx
        replace hx := Lib.hid hx
        try (have hk44 : ¬ (k < 4) := by omega)
        clear hx'
        go_wp2
        refine bodyPost_ret (v := .agg #[.int .i64 ep, .slice A' k c']) (by simp [results, Try.results7, go_sem, e1, e2]) rfl ⟨A', k, c', rfl, hlen.out, own_base hown'.out (by omega), hBB.out⟩
end Go.Proofs.Ytkmmaijkidkoiaa
