/- Keys as bytes: a tuple is read. -/
import Derived.Test.YtkmmaijkidkoiaaOrdA
namespace Go.Proofs.Ytkmmaijkidkoiaa
open Go Go.RowKit

abbrev Prt.cells (p : Prt) : List Value := [.bool p.isT, .int .i64 p.num, .string ⟨p.txt.toArray⟩]
theorem siP : SlInfo Try.prog 104 108 (.agg #[.bool false, .int .i64 0, .string ⟨#[]⟩]) 3 32 := ⟨Try.underlying104, by kernel_rfl, rfl, by omega⟩
def slen : Value → Nat | .slice _ n _ => n | _ => 0
def aheadP (acc : List Prt) (r : Except Int (List Prt)) : Except Int (List Prt) := r.map fun l => acc ++ l
theorem aheadP_nil (r : Except Int (List Prt)) : aheadP [] r = r := by cases r <;> simp [aheadP, Except.map]
theorem aheadP_cons (acc : List Prt) (p : Prt) (r : Except Int (List Prt)) : aheadP acc (r.map (p :: ·)) = aheadP (acc ++ [p]) r := by cases r <;> simp [aheadP, Except.map]
theorem prt_one (p : Prt) : ∀ u ∈ p.cells, u.oneCell' = true := by
  intro u hu
  unfold Prt.cells at hu
  simp only [List.mem_cons, List.not_mem_nil, or_false] at hu
  rcases hu with rfl | rfl | rfl <;> rfl
/-- The tuple that is read, or an error's number. -/
def ReadPost (r : Except Int (List Prt)) (w : World) (e : Ending) (w' : World) : Prop :=
  Below w.heap.size w w' ∧
     (match r with
      | .error x => e = .returned (.tuple #[.slice none 0 0, .int .i64 x])
      | .ok l => ∃ A c, e = .returned (.tuple #[.slice A l.length c, .int .i64 0]) ∧ w'.ownsRow w.heap.size 108 3 (.slice A l.length c) l.length (l.flatMap Prt.cells))

set_option maxRecDepth 100000 in
set_option maxHeartbeats 1000000 in
theorem oread_c (A : Option Addr) (n c : Nat) (bs : List UInt8) (w : World) (hb : Rd w A (bs.map bv)) (hn : bs.length = n) (hc : n ≤ c) (hl : n ≤ 1099511627) :
   Calls Try.prog 86 #[.slice A n c] w (ReadPost (rdParts bs) w) := by
  replace hn := Lib.hid hn
  go_enter Try.func86, Try.ntmps86
  go_wp2_with fail
  go_loopw [0, 4] (fun b v wr => ∃ (q : List UInt8) (A' : Option Addr) (c' : Nat) (acc : List Prt) (Ao : Option Addr) (N co : Nat), b = .slice A' q.length c' ∧ v = .slice Ao N co ∧ rdParts bs = aheadP acc (rdParts q) ∧ q.length ≤ c' ∧ N + q.length ≤ n ∧ acc.length = N ∧
        Rd w A' (q.map bv) ∧ wr.ownsRow w.heap.size 108 3 (.slice Ao N co) N (acc.flatMap Prt.cells) ∧ Below w.heap.size w wr)
     (fun b _ _ => slen b)
  case atStart => exact ⟨bs, A, c, [], none, 0, 0, by rw [hn.out], rfl, (aheadP_nil _).symm, by rw [hn.out]; exact hc, by rw [hn.out]; omega, rfl, hb, World.ownsRow_nil _ _ _ _, Below.refl _ _⟩
  case round =>
    obtain ⟨q, A', c', acc, Ao, N, co, rfl, rfl, hrd, hqc, hNq, hN, hR, hown, hB⟩ := hrel
    replace hrd := Lib.hid hrd
    replace hN := Lib.hid hN
    cases q with
    | nil =>
      go_wp2
      go_ret2
      refine ⟨hB, ?_⟩
      rw [hrd.out, rdParts_nil]
      have e : (acc ++ []).length = N := by simpa using hN.out
      simp only [aheadP, Except.map]
      rw [e]
      exact ⟨Ao, co, rfl, by simpa using hown⟩
    | cons k r =>
      obtain ⟨b, o, rfl, hcell⟩ := (hR.ext hB).byte (k := 0) (by simp)
      simp only [List.getD_cons_zero, Nat.add_zero] at hcell
      have hRr := cutB hR rfl hqc 1
      simp only [List.drop_succ_cons, List.drop_zero] at hRr
      generalize hm : (k :: r).length = m at *
      have hs := fun (w : World) => run_sl_lo (P := Try.prog) w 29 5 1 Try.underlying29 szB (some ⟨b, o, none⟩) m c' 1 1 rfl (by rw [← hm]; simp)
      have hm0 : 0 < m := by rw [← hm]; simp
      replace hm := Lib.hid hm
      generalize cutA (some ⟨b, o, none⟩) c' 1 1 = A1 at *
      have hbl : b < wr.heap.size := cell_lt hcell
      by_cases hk1 : k = 1
      · subst hk1
        go_wp2
        go_region
        go_wp2_with fail
        refine (word_c A1 (m - 1) (c' - 1) r _ ((hRr.ext hB).ext ((Below.refl _ _).alloc (Nat.le_refl _) _).drew) (by have := hm.out; simp at this; omega) (by omega) (by omega)).mono ?_
        rintro e w2 ⟨hB2, hp⟩
        have hBw : Below w.heap.size w w2 := (hB.alloc hB.size _).drew.trans (hB2.mono (by have := hB.size; simp; omega))
        have hBr : Below wr.heap.size wr w2 := ((Below.refl _ _).alloc (Nat.le_refl _) _).drew.trans (hB2.mono (by simp))
        have q0 := bel_cell hB2 (show wr.heap.size < _ by simp) (o := 0) (u := .bool false) (by go_simp)
        have q1 := bel_cell hB2 (show wr.heap.size < _ by simp) (o := 1) (u := .int .i64 0) (by go_simp)
        have q2 := bel_cell hB2 (show wr.heap.size < _ by simp) (o := 2) (u := .string ⟨#[]⟩) (by go_simp)
        have f0 : w2.frozen? ⟨wr.heap.size, 0, none⟩ = false := (hB2.frozen (p := ⟨wr.heap.size, 0, none⟩) (by simp)).trans (by go_simp)
        have f1 : w2.frozen? ⟨wr.heap.size, 1, none⟩ = false := (hB2.frozen (p := ⟨wr.heap.size, 1, none⟩) (by simp)).trans (by go_simp)
        have f2 : w2.frozen? ⟨wr.heap.size, 2, none⟩ = false := (hB2.frozen (p := ⟨wr.heap.size, 2, none⟩) (by simp)).trans (by go_simp)
        cases hw : rdWord r with
        | error x =>
          rw [hw] at hp
          simp only [Except.map] at hp
          subst hp
          have hx : (x != 0) = true := by simpa using rdWord_err r x hw
          go_wp2
          go_ret2
          refine ⟨((hBw.setCell (p := ⟨wr.heap.size, 0, none⟩) hB.size _).setCell (p := ⟨wr.heap.size, 1, none⟩) hB.size _).setCell (p := ⟨wr.heap.size, 2, none⟩) hB.size _, ?_⟩
          rw [hrd.out, rdParts_word, hw]
          rfl
        | ok xq =>
          obtain ⟨x, q⟩ := xq
          rw [hw] at hp
          simp only [Except.map] at hp
          obtain ⟨A2, n2, c2, rfl, hn2, hc2, hR2⟩ := hp
          have hq := rdWord_short r x q hw
          have hmr := hm.out
          simp only [List.length_cons] at hmr
          subst hn2
          replace hw := Lib.hid hw
          have hR2' := hR2 _ hRr
          have hBs : ∀ u0 u1 u2 : Value, Below wr.heap.size wr (((w2.setCell ⟨wr.heap.size, 0, none⟩ u0).setCell ⟨wr.heap.size, 1, none⟩ u1).setCell ⟨wr.heap.size, 2, none⟩ u2) := fun u0 u1 u2 => (((hBr.setCell (p := ⟨wr.heap.size, 0, none⟩) (Nat.le_refl _) _).setCell (p := ⟨wr.heap.size, 1, none⟩) (Nat.le_refl _) _).setCell (p := ⟨wr.heap.size, 2, none⟩) (Nat.le_refl _) _)
          go_wp2_with (at_builtin; refine wl_append rfl _ _ 104 rfl _ _ 3 32 siP w.heap.size w ((hB.trans ((hBs _ _ _).mono hB.size)).alloc (hB.trans ((hBs _ _ _).mono hB.size)).size _) (Nat.le_refl _) Ao N co _ rfl ((own_ext hown (hBs _ _ _)).alloc _) (some ⟨w2.heap.size, 0, none⟩) 1 1 (Prt.cells ⟨false, x, []⟩) rfl rfl (Rd.newAt _ _ (by simp [World.setCell]) [_, _, _] _) (prt_one _) (N + 1) ((acc ++ [(⟨false, x, []⟩ : Prt)]).flatMap Prt.cells) rfl (by rw [List.flatMap_append]; simp) (by omega) (by omega) ?_; intro A3 c3 w3 hown3 hB3 hg3 hl3)
          go_roundw
          case rel =>
            refine ⟨q, A2, c2, acc ++ [(⟨false, x, []⟩ : Prt)], A3, N + 1, c3, rfl, rfl, ?_, hc2, by omega, by simp [hN.out], hR2', hown3, hB3⟩
            rw [hrd.out, rdParts_word_ok hw.out, aheadP_cons]
          case measure => simp [slen]; omega
      · have hn1 : ((k.toNat : Int) == 1) = false := beq_eq_false_iff_ne.2 (fun e => hk1 (UInt8.toNat_inj.1 (by show k.toNat = 1; omega)))
        by_cases hk2 : k = 2
        · subst hk2
          go_wp2
          go_region
          go_wp2_with fail
          refine (words_c A1 (m - 1) (c' - 1) r _ ((hRr.ext hB).ext ((Below.refl _ _).alloc (Nat.le_refl _) _).drew) (by have := hm.out; simp at this; omega) (by omega) (by omega)).mono ?_
          rintro e w2 ⟨hB2, hp⟩
          have hBw : Below w.heap.size w w2 := (hB.alloc hB.size _).drew.trans (hB2.mono (by have := hB.size; simp; omega))
          have hBr : Below wr.heap.size wr w2 := ((Below.refl _ _).alloc (Nat.le_refl _) _).drew.trans (hB2.mono (by simp))
          have q0 := bel_cell hB2 (show wr.heap.size < _ by simp) (o := 0) (u := .bool false) (by go_simp)
          have q1 := bel_cell hB2 (show wr.heap.size < _ by simp) (o := 1) (u := .int .i64 0) (by go_simp)
          have q2 := bel_cell hB2 (show wr.heap.size < _ by simp) (o := 2) (u := .string ⟨#[]⟩) (by go_simp)
          have f0 : w2.frozen? ⟨wr.heap.size, 0, none⟩ = false := (hB2.frozen (p := ⟨wr.heap.size, 0, none⟩) (by simp)).trans (by go_simp)
          have f1 : w2.frozen? ⟨wr.heap.size, 1, none⟩ = false := (hB2.frozen (p := ⟨wr.heap.size, 1, none⟩) (by simp)).trans (by go_simp)
          have f2 : w2.frozen? ⟨wr.heap.size, 2, none⟩ = false := (hB2.frozen (p := ⟨wr.heap.size, 2, none⟩) (by simp)).trans (by go_simp)
          cases hw : rdText r with
          | error x =>
            rw [hw] at hp
            simp only [Except.map] at hp
            subst hp
            have hx : (x != 0) = true := by simpa using rdText_err r x hw
            go_wp2
            go_ret2
            refine ⟨((hBw.setCell (p := ⟨wr.heap.size, 0, none⟩) hB.size _).setCell (p := ⟨wr.heap.size, 1, none⟩) hB.size _).setCell (p := ⟨wr.heap.size, 2, none⟩) hB.size _, ?_⟩
            rw [hrd.out, rdParts_text, hw]
            rfl
          | ok xq =>
            obtain ⟨x, q⟩ := xq
            rw [hw] at hp
            simp only [Except.map] at hp
            obtain ⟨A2, n2, c2, rfl, hn2, hc2, hR2⟩ := hp
            have hq := rdText_short r x q hw
            have hmr := hm.out
            simp only [List.length_cons] at hmr
            subst hn2
            replace hw := Lib.hid hw
            have hR2' := hR2 _ hRr
            have hBs : ∀ u0 u1 u2 : Value, Below wr.heap.size wr (((w2.setCell ⟨wr.heap.size, 0, none⟩ u0).setCell ⟨wr.heap.size, 1, none⟩ u1).setCell ⟨wr.heap.size, 2, none⟩ u2) := fun u0 u1 u2 => (((hBr.setCell (p := ⟨wr.heap.size, 0, none⟩) (Nat.le_refl _) _).setCell (p := ⟨wr.heap.size, 1, none⟩) (Nat.le_refl _) _).setCell (p := ⟨wr.heap.size, 2, none⟩) (Nat.le_refl _) _)
            go_wp2_with (at_builtin; refine wl_append rfl _ _ 104 rfl _ _ 3 32 siP w.heap.size w ((hB.trans ((hBs _ _ _).mono hB.size)).alloc (hB.trans ((hBs _ _ _).mono hB.size)).size _) (Nat.le_refl _) Ao N co _ rfl ((own_ext hown (hBs _ _ _)).alloc _) (some ⟨w2.heap.size, 0, none⟩) 1 1 (Prt.cells ⟨true, 0, x⟩) rfl rfl (Rd.newAt _ _ (by simp [World.setCell]) [_, _, _] _) (prt_one _) (N + 1) ((acc ++ [(⟨true, 0, x⟩ : Prt)]).flatMap Prt.cells) rfl (by rw [List.flatMap_append]; simp) (by omega) (by omega) ?_; intro A3 c3 w3 hown3 hB3 hg3 hl3)
            go_roundw
            case rel =>
              refine ⟨q, A2, c2, acc ++ [(⟨true, 0, x⟩ : Prt)], A3, N + 1, c3, rfl, rfl, ?_, hc2, by omega, by simp [hN.out], hR2', hown3, hB3⟩
              rw [hrd.out, rdParts_text_ok hw.out, aheadP_cons]
            case measure => simp [slen]; omega
        · have hn2 : ((k.toNat : Int) == 2) = false := beq_eq_false_iff_ne.2 (fun e => hk2 (UInt8.toNat_inj.1 (by show k.toNat = 2; omega)))
          go_wp2
          go_region
          go_wp2
          go_ret2
          refine ⟨(hB.alloc hB.size _).drew, ?_⟩
          rw [hrd.out, rdParts_other hk1 hk2]
          rfl
end Go.Proofs.Ytkmmaijkidkoiaa
