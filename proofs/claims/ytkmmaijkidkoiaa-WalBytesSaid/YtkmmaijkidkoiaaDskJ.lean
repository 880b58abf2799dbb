/- The disk: Append, Rename, Read. -/
import Derived.Test.YtkmmaijkidkoiaaDskI
namespace Go.Proofs.Ytkmmaijkidkoiaa
open Go Go.RowKit
variable {fp : Nat → Prop}

set_option maxRecDepth 100000 in
set_option maxHeartbeats 1000000 in
theorem append_c (d m : Nat) (D : Dk) (s : ByteArray) (B : Option Addr) (nb cb : Nat) (bs : List UInt8) (w : World) (h : DiskAt fp w d m D) (hs : s.size ≤ 1099511627776) (hb : Rd w B (bs.map bv)) (hn : bs.length = nb) (hnb : nb ≤ 1000000000) (hoff : ∀ g o, B = some ⟨g, o, none⟩ → g ∉ [d, m]) :
   Calls Try.prog 21 #[.pointer (some ⟨d, 0, none⟩), .string s, .slice B nb cb] w fun e w' => e = .returned (.int .i64 (D.append s.data.toList bs).1) ∧ DiskAt fp w' d m (D.append s.data.toList bs).2 ∧ Turn [d, m] w w' := by
  have hd := h.ltd
  have hdm := h.ltm
  have c1 := h.c1
  have hu := h.ok.used
  have hq0 := h.ok.q0
  have hq1 := h.ok.q1
  have hT0 : Below w.heap.size w (((w.alloc (.cells #[.pointer (some ⟨d, 0, none⟩)] 23)).alloc (.cells #[.string s] 9)).alloc (.cells #[.slice B nb cb] 29)) := (((Below.refl _ _).alloc (Nat.le_refl _) _).alloc (by simp) _).alloc (by simp; omega) _
  have hq : ∀ x, x = (if D.F.has s.data.toList then if D.q < D.F.used + bs.length then 6 else 0 else 8) → ∀ w1 bd bn bb, DiskAt fp w1 d m D → w1.cell? ⟨bd, 0, none⟩ = some (.pointer (some ⟨d, 0, none⟩)) → w1.cell? ⟨bn, 0, none⟩ = some (.string s) → w1.cell? ⟨bb, 0, none⟩ = some (.slice B nb cb) → Rd w1 B (bs.map bv) → d < bd → d < bn → m < bd → m < bn → d < bb → m < bb →
     Calls Try.prog 49 #[.pointer (some ⟨d, 0, none⟩), .int .i64 x, .func (.func 47) #[] #[.pointer (some ⟨bd, 0, none⟩), .pointer (some ⟨bn, 0, none⟩), .pointer (some ⟨bb, 0, none⟩)], .func (.func 47) #[] #[.pointer (some ⟨bd, 0, none⟩), .pointer (some ⟨bn, 0, none⟩), .pointer (some ⟨bb, 0, none⟩)]] w1 fun e w' => e = .returned (.int .i64 (D.append s.data.toList bs).1) ∧ DiskAt fp w' d m (D.append s.data.toList bs).2 ∧ Turn [d, m] w1 w' := by
    intro x hx w1 bd bn bb h1 g1 g2 g3 hb1 l1 l2 l3 l4 l5 l6
    unfold Dk.append
    rw [← hx]
    have hc : x = 0 → ∀ (w2 : World) (l : Int) (b : Bool), DiskAt fp w2 d m ⟨D.F, D.q, l, b⟩ → Turn [d, m] w1 w2 → Calls Try.prog 47 #[.pointer (some ⟨bd, 0, none⟩), .pointer (some ⟨bn, 0, none⟩), .pointer (some ⟨bb, 0, none⟩)] w2 fun e w3 => e = .returned (.tuple #[]) ∧ DiskAt fp w3 d m ⟨D.F.put ⟨s.data.toList, (D.F.get s.data.toList).bs ++ bs, (D.F.get s.data.toList).safe⟩, D.q, l, b⟩ ∧ Turn [d, m] w2 w3 := by
      intro h0 w2 l b h2 ht2
      rw [h0] at hx
      have hx2 : D.F.has s.data.toList = true := by cases h : D.F.has s.data.toList <;> simp [h] at hx ⊢
      have hx3 : ¬ D.q < D.F.used + bs.length := by
        intro h
        simp [h, hx2] at hx
      exact append1_c d m bd bn bb _ s B nb cb bs w2 h2 hs (ht2.cell g1 (by simp; omega)) (ht2.cell g2 (by simp; omega)) (ht2.cell g3 (by simp; omega)) (ht2.rd hb1 hoff) hn hx2 (by show D.F.used + nb ≤ _; omega) (by omega) (by omega) (by omega)
    exact deed_spec d m D _ _ _ _ _ _ _ w1 h1 (ent Try.func47 (by kernel_rfl) rfl) (ent Try.func47 (by kernel_rfl) rfl) hc hc
  have hth := fun w h => there_c (fp := fp) d m D s w h hs
  have hus := fun w h => used_c (fp := fp) d m D w h
  generalize D.append s.data.toList bs = R at *
  generalize hfb : D.F.has s.data.toList = fb at *
  generalize huu : D.F.used = uu at *
  generalize hqq : D.q = qq at *
  replace hth := Lib.hid hth
  replace hus := Lib.hid hus
  replace hq := Lib.hid hq
  replace hT0 := Lib.hid hT0
  replace hn := Lib.hid hn
  clear huu hfb hqq
  have hth0 := hth.out _ (h.ext hT0.out)
  cases fb
  · replace hth0 := Lib.hid hth0
    have hqc := hq.out 8 rfl
    replace hqc := Lib.hid hqc
    go_enter Try.func21, Try.ntmps21
    go_wp2_with fail
    refine hth0.out.mono ?_
    rintro e w3 ⟨rfl, hB3⟩
    have hB3' := hT0.out.trans (hB3.mono (hT0.out.size))
    have g0 : w3.cell? ⟨w.heap.size, 0, none⟩ = some (.pointer (some ⟨d, 0, none⟩)) := bel_cell hB3 (by simp <;> omega) (by go_simp)
    have g1 : w3.cell? ⟨w.heap.size + 1, 0, none⟩ = some (.string s) := bel_cell hB3 (by simp <;> omega) (by go_simp)
    have g2 : w3.cell? ⟨w.heap.size + 1 + 1, 0, none⟩ = some (.slice B nb cb) := bel_cell hB3 (by simp <;> omega) (by go_simp)
    have h3 := h.ext hB3'
    replace h3 := Lib.hid h3
    replace hB3' := Lib.hid hB3'
    go_wp2_with fail
    go_region
    all_goals go_wp2_with fail
    all_goals refine (hqc.out _ _ _ _ h3.out.drew g0 g1 g2 (hb.ext hB3'.out.drew) (by omega) (by omega) (by omega) (by omega) (by omega) (by omega)).mono ?_
    all_goals
      rintro e w4 ⟨rfl, h4, ht4⟩
      replace h4 := Lib.hid h4
      replace ht4 := Lib.hid ht4
      go_wp2
      go_ret
      exact ⟨rfl, h4.out, ((Turn.ofBelow hB3'.out).drew).trans ht4.out⟩
  · replace hth0 := Lib.hid hth0
    by_cases hf : qq < uu + nb
    all_goals
      have hqc := hq.out _ rfl
      rw [if_pos rfl, hn.out] at hqc
      first | rw [if_pos hf] at hqc | rw [if_neg hf] at hqc
      replace hqc := Lib.hid hqc
      go_enter Try.func21, Try.ntmps21
      go_wp2_with fail
      refine hth0.out.mono ?_
      rintro e w3 ⟨rfl, hB3⟩
      have hB3' := hT0.out.trans (hB3.mono (hT0.out.size))
      have hS : ∀ w', Below w3.heap.size w3 w' → w'.cell? ⟨w.heap.size, 0, none⟩ = some (.pointer (some ⟨d, 0, none⟩)) ∧ w'.cell? ⟨w.heap.size + 1, 0, none⟩ = some (.string s) ∧ w'.cell? ⟨w.heap.size + 1 + 1, 0, none⟩ = some (.slice B nb cb) ∧ w'.cell? ⟨d, 1, none⟩ = some (.int .i64 qq) := by
        intro w' hB
        have hBB := hB3.trans (hB.mono hB3.size)
        have hBW := hB3'.trans (hB.mono hB3'.size)
        exact ⟨bel_cell hBB (by simp <;> omega) (by go_simp), bel_cell hBB (by simp <;> omega) (by go_simp), bel_cell hBB (by simp <;> omega) (by go_simp), bel_cell hBW (cell_lt c1) c1⟩
      have hus3 := hus.out _ (h.ext hB3'.drew)
      have h3 := h.ext hB3'
      replace hus3 := Lib.hid hus3
      replace h3 := Lib.hid h3
      replace hB3' := Lib.hid hB3'
      replace hS := Lib.hid hS
      go_wp2_with fail
      go_region_held3 (fun w' => w'.cell? ⟨w.heap.size, 0, none⟩ = some (.pointer (some ⟨d, 0, none⟩)) ∧ w'.cell? ⟨w.heap.size + 1, 0, none⟩ = some (.string s) ∧ w'.cell? ⟨w.heap.size + 1 + 1, 0, none⟩ = some (.slice B nb cb) ∧ w'.cell? ⟨d, 1, none⟩ = some (.int .i64 qq))
        (first
          | exact hS.out _ (Below.refl _ _).drew
          | exact hS.out _ hB5.out)
        ((go_at_call 46; refine hus3.out.mono ?_; rintro e w5 ⟨rfl, hB5⟩; have h5 := Lib.hid (h3.out.drew.ext hB5); replace hB5 := Lib.hid ((Below.refl _ _).drew.trans hB5)))
      all_goals
        have hw : IntKind.i64.wrap (qq - (uu : Int)) = qq - uu := by rw [IntKind.wrap_i64]; omega
        first
          | have hdd : decide (qq - (uu : Int) < (nb : Int)) = true := by simp; omega
          | have hdd : decide (qq - (uu : Int) < (nb : Int)) = false := by simp; omega
        rw [hw, hdd]
        clear hw hdd
        obtain ⟨k1, k2, k3, _⟩ := hS.out _ hB5.out
        go_wp2_with fail
        refine (hqc.out _ _ _ _ h5.out k1 k2 k3 (hb.ext (hB3'.out.trans (hB5.out.mono hB3'.out.size))) (by omega) (by omega) (by omega) (by omega) (by omega) (by omega)).mono ?_
        rintro e w6 ⟨rfl, h6, ht6⟩
        replace h6 := Lib.hid h6
        replace ht6 := Lib.hid ht6
        go_wp2
        go_ret
        exact ⟨rfl, h6.out, ((Turn.ofBelow (hB3'.out.trans (hB5.out.mono hB3'.out.size)))).trans ht6.out⟩

set_option maxRecDepth 100000 in
set_option maxHeartbeats 1000000 in
theorem rename1_c (d m bd bn bt : Nat) (D : Dk) (s t : ByteArray) (w : World) (h : DiskAt fp w d m D) (hs : s.size ≤ 1099511627776) (hst : t.size ≤ 1099511627776) (gd : w.cell? ⟨bd, 0, none⟩ = some (.pointer (some ⟨d, 0, none⟩))) (gn : w.cell? ⟨bn, 0, none⟩ = some (.string s)) (gt : w.cell? ⟨bt, 0, none⟩ = some (.string t))
   (n1 : bd ≠ d) (n2 : bn ≠ d) (n3 : bt ≠ d) (hh : D.F.has s.data.toList = true) :
   Calls Try.prog 71 #[.pointer (some ⟨bd, 0, none⟩), .pointer (some ⟨bn, 0, none⟩), .pointer (some ⟨bt, 0, none⟩)] w fun e w' => e = .returned (.tuple #[]) ∧ DiskAt fp w' d m ⟨(D.F.del s.data.toList).put ⟨t.data.toList, (D.F.get s.data.toList).bs, (D.F.get s.data.toList).safe⟩, D.q, D.left, D.down⟩ ∧ Turn [d, m] w w' := by
  have c0 := h.c0
  have hd := h.ltd
  have hdm := h.ltm
  have hln := h.ok.len
  obtain ⟨es, v, hown, hat, _, A, n, c, rfl, hrest⟩ := h.look s.data.toList
  have hlen : (D.F.get s.data.toList).bs.length = n := hrest.1
  have hsf : (D.F.get s.data.toList).safe ≤ n := by
    have : D.F.get s.data.toList ∈ D.F := by
      unfold Files.get
      cases hf : D.F.find? fun f => f.nm == s.data.toList with
      | none =>
        rw [List.find?_eq_none] at hf
        obtain ⟨f, h1, h2⟩ := List.any_eq_true.1 hh
        exact absurd h2 (hf f h1)
      | some f => exact List.mem_of_find?_eq_some hf
    rw [← hrest.1]
    exact h.ok.safe _ this
  have hm : ∀ b u, w.cell? ⟨b, 0, none⟩ = some u → b ≠ d → b ∉ [d, m] := by
    intro b u hc' hne hmem
    simp at hmem
    rcases hmem with rfl | rfl
    · exact hne rfl
    · obtain ⟨ms, cl, hmm, _⟩ := hown
      simp [World.cell?, hmm] at hc'
  have hm1 := hm bd _ gd n1
  have hm3 := hm bt _ gt n3
  have hlk : ∀ w', Below w.heap.size w w' → (Instr.lookup 44 (.map (some m)) (.string s) false).run Try.prog w' = .ok (.agg #[.slice A n c, .int .i64 ((D.F.get s.data.toList).safe : Int)]) w' := fun w' hB =>
    run_look1 w' 44 9 67 strK Try.underlying44 (zero_file _) m _ _ (Turn.map (S := []) (.ofBelow hB) hown (by simp)) (.string s) _ (skey s (by omega)) _ hat
  have hl0 := hlk w.drew (Below.refl _ _).drew
  have hl1 := hlk (w.alloc (.cells #[.slice none 0 0, .int .i64 0] 67)).drew ((Below.refl _ _).alloc (Nat.le_refl _) _).drew
  have hfr : ∀ w', Below w.heap.size w w' → FileRep fp w' (.agg #[.slice A n c, .int .i64 ((D.F.get s.data.toList).safe : Int)]) (D.F.get s.data.toList).bs (D.F.get s.data.toList).safe := fun w' hB => FileRep.turn (S := []) ⟨A, n, c, rfl, hrest⟩ (.ofBelow hB) (by simp)
  have hdel : ∀ w' ty, Below w.heap.size w w' → ∃ w2, (Builtin.delete_ #[44, 9] ty #[.map (some m), .string s]).run Try.prog w' = .ok (.tuple #[]) w2 ∧ DiskAt fp w2 d m ⟨D.F.del s.data.toList, D.q, D.left, D.down⟩ ∧ Turn [d, m] w' w2 ∧ FileRep fp w2 (.agg #[.slice A n c, .int .i64 ((D.F.get s.data.toList).safe : Int)]) (D.F.get s.data.toList).bs (D.F.get s.data.toList).safe := by
    intro w' ty hB
    obtain ⟨w2, h1, h2, h3⟩ := (h.ext hB).delRun s hs ty
    exact ⟨w2, h1, h2, h3, (hfr w' hB).turn h3 (h.ext hB).nb⟩
  have hput : ∀ w2, DiskAt fp w2 d m ⟨D.F.del s.data.toList, D.q, D.left, D.down⟩ → FileRep fp w2 (.agg #[.slice A n c, .int .i64 ((D.F.get s.data.toList).safe : Int)]) (D.F.get s.data.toList).bs (D.F.get s.data.toList).safe →
      ∃ w3, (Instr.mapUpdate 44 (.map (some m)) (.string t) (.agg #[.slice A n c, .int .i64 ((D.F.get s.data.toList).safe : Int)])).run Try.prog w2 = .ok () w3 ∧ DiskAt fp w3 d m ⟨(D.F.del s.data.toList).put ⟨t.data.toList, (D.F.get s.data.toList).bs, (D.F.get s.data.toList).safe⟩, D.q, D.left, D.down⟩ ∧ Turn [d, m] w2 w3 := by
    intro w2 h2 hf2
    have hdu := D.F.del_used s.data.toList h.ok.apart
    have hu := h.ok.used
    have hdl := Files.del_lt hh
    exact h2.putRun t hst _ _ _ hf2 (by show (D.F.del s.data.toList).used + _ ≤ 16777216 + ((D.F.del s.data.toList).get t.data.toList).bs.length; omega) (.inr (by show (D.F.del s.data.toList).length < 400; omega)) (by omega)
  clear hrest hat hown hm hlk hfr hh
  have l1 := cell_lt gd
  have l2 := cell_lt gn
  have l3 := cell_lt gt
  have a1 := cell_alloc gd (.cells #[.slice none 0 0, .int .i64 0] 67)
  have a2 := cell_alloc gn (.cells #[.slice none 0 0, .int .i64 0] 67)
  have a4 := cell_alloc c0 (.cells #[.slice none 0 0, .int .i64 0] 67)
  generalize D.F.del s.data.toList = F1 at *
  replace hdel := Lib.hid hdel
  replace hput := Lib.hid hput
  replace hlen := Lib.hid hlen
  go_enter Try.func71, Try.ntmps71
  go_wp2
  go_region
  all_goals
    have hW : Below w.heap.size w ((w.alloc (.cells #[.slice A n c, .int .i64 ((D.F.get s.data.toList).safe : Int)] 67)).drew) := ((Below.refl _ _).alloc (Nat.le_refl _) _).drew
    have b0 : ((w.alloc (.cells #[.slice A n c, .int .i64 ((D.F.get s.data.toList).safe : Int)] 67)).drew).cell? ⟨w.heap.size, 0, none⟩ = some (.slice A n c) := by go_simp
    have b1 : ((w.alloc (.cells #[.slice A n c, .int .i64 ((D.F.get s.data.toList).safe : Int)] 67)).drew).cell? ⟨w.heap.size, 1, none⟩ = some (.int .i64 ((D.F.get s.data.toList).safe : Int)) := by go_simp
    have hsz : w.heap.size < ((w.alloc (.cells #[.slice A n c, .int .i64 ((D.F.get s.data.toList).safe : Int)] 67)).drew).heap.size := by simp
    generalize ((w.alloc (.cells #[.slice A n c, .int .i64 ((D.F.get s.data.toList).safe : Int)] 67)).drew) = W at hW b0 b1 hsz ⊢
    have k1 := bel_cell hW l1 gd
    have k2 := bel_cell hW l2 gn
    have k3 := bel_cell hW l3 gt
    have k4 := bel_cell hW hd c0
    clear hl0 hl1 a1 a2 a4 gd gn gt c0
    go_wp2
    go_region_law ((obtain ⟨w2, hrun, h2, ht, hf2⟩ := hdel.out W.drew 0 hW.drew; refine step_delete_run (by rfl) _ _ 44 9 (by rfl) _ _ (by rfl) (by rfl) w2 hrun ?_; replace h2 := Lib.hid h2; replace ht := Lib.hid ht; replace hf2 := Lib.hid hf2; clear hrun))
    all_goals
      have hWT : Turn [d, m] W w2 := (Turn.refl _ _).drew.trans ht.out
      have j1 := hWT.cell k1 hm1
      have j3 := hWT.cell k3 hm3
      have j4 := h2.out.c0
      have jb0 := hWT.cell b0 (by simp; omega)
      have jb1 := hWT.cell b1 (by simp; omega)
      obtain ⟨w3, hrun, h3, ht3⟩ := hput.out w2.drew h2.out.drew (FileRep.turn (S := []) hf2.out ((Turn.refl _ _).drew) (by simp))
      replace h3 := Lib.hid h3
      replace ht3 := Lib.hid ht3
      replace hWT := Lib.hid hWT
      clear k1 k2 k3 k4 b0 b1
      go_wp2
      go_still_tail 6, (by kernel_rfl)
      all_goals go_wp2
      all_goals go_end0
      all_goals exact ⟨rfl, h3.out, (Turn.ofBelow hW).trans (hWT.out.trans ((Turn.refl _ _).drew.trans ht3.out))⟩
end Go.Proofs.Ytkmmaijkidkoiaa
