/- May a version be written: the code's row.May. -/
import Derived.Test.YtkmmaijkidkoiaaMayA
namespace Go.Proofs.Ytkmmaijkidkoiaa
open Go Go.RowKit

/-- A version that may be written. -/
def Ver.okv (v : Ver) : Bool := (splitK v.key.data.toList).2.2 == 0 && (decide (0 ≤ v.br ∧ v.br ≤ 15) && decide (1 ≤ v.ep ∧ v.ep ≤ 10000) && decide (1 ≤ v.sq ∧ v.sq ≤ 100000)) && spanOk v.fr v.to && decide (v.val.size ≤ 200) && (!v.gone || v.val.toList.isEmpty)

theorem ver_box {w w' : World} {t : TypeId} {key : ByteArray} {br ep sq fr too : Int} {val : ByteArray} {gone : Bool}
    (hB : Below (w.alloc (.cells #[.string key, .int .i64 br, .int .i64 ep, .int .i64 sq, .int .i64 fr, .int .i64 too, .string val, .bool gone] t)).heap.size (w.alloc (.cells #[.string key, .int .i64 br, .int .i64 ep, .int .i64 sq, .int .i64 fr, .int .i64 too, .string val, .bool gone] t)) w') :
    w'.cell? ⟨w.heap.size, 1, none⟩ = some (.int .i64 br) ∧ w'.cell? ⟨w.heap.size, 2, none⟩ = some (.int .i64 ep) ∧ w'.cell? ⟨w.heap.size, 3, none⟩ = some (.int .i64 sq) ∧
    w'.cell? ⟨w.heap.size, 4, none⟩ = some (.int .i64 fr) ∧ w'.cell? ⟨w.heap.size, 5, none⟩ = some (.int .i64 too) ∧ w'.cell? ⟨w.heap.size, 6, none⟩ = some (.string val) ∧ w'.cell? ⟨w.heap.size, 7, none⟩ = some (.bool gone) := by
  have h := fun o u h => bel_cell hB (show w.heap.size < _ by simp) (o := o) (u := u) h
  exact ⟨h _ _ (by go_simp), h _ _ (by go_simp), h _ _ (by go_simp), h _ _ (by go_simp), h _ _ (by go_simp), h _ _ (by go_simp), h _ _ (by go_simp)⟩

set_option maxRecDepth 100000 in
set_option maxHeartbeats 1000000 in
theorem rowmay_c (v : Ver) (w : World) (hk : v.key.size ≤ 1000000) : Calls Try.prog 44 #[v.agg] w fun e w' => e = .returned (.bool v.okv) ∧ Below w.heap.size w w' := by
  rcases v with ⟨key, br, ep, sq, fr, too, val, gone⟩
  simp only at hk
  have hres : (Ver.okv ⟨key, br, ep, sq, fr, too, val, gone⟩) = ((splitK key.data.toList).2.2 == 0 && (decide (0 ≤ br ∧ br ≤ 15) && decide (1 ≤ ep ∧ ep ≤ 10000) && decide (1 ≤ sq ∧ sq ≤ 100000)) && spanOk fr too && decide (val.size ≤ 200) && (!gone || val.toList.isEmpty)) := rfl
  replace hres := Lib.hid hres
  go_enter Try.func44, Try.ntmps44
  go_wp2_with fail
  refine (osplit_c key _ hk).mono ?_
  rintro e w1 ⟨rfl, hB1⟩
  generalize splitK key.data.toList = s at *
  obtain ⟨tb, tx, er⟩ := s
  simp only
  have hW : Below w.heap.size w w1 := ((Below.refl _ _).alloc (Nat.le_refl _) _).trans (hB1.mono (by simp))
  obtain ⟨q1, q2, q3, q4, q5, q6, q7⟩ := ver_box hB1
  go_wp2_with fail
  refine (in_c _ _ _ _).mono ?_
  rintro e w2 ⟨rfl, hB2⟩
  have HB2 := hB1.trans (hB2.mono hB1.size)
  clear q1 q2 q3 q4 q5 q6 q7
  obtain ⟨q1, q2, q3, q4, q5, q6, q7⟩ := ver_box HB2
  replace hW := hW.trans (hB2.mono hW.size)
  clear hB1 hB2
  generalize decide (0 ≤ br ∧ br ≤ 15) = p1 at *
  by_cases her : er = 0
  · subst her
    cases p1
    · go_wp2
      go_ret
      exact ⟨by rw [hres.out]; simp_all, hW⟩
    · go_wp2_with fail
      refine (in_c _ _ _ _).mono ?_
      rintro e w3 ⟨rfl, hB3⟩
      have HB3 := HB2.trans (hB3.mono HB2.size)
      clear q1 q2 q3 q4 q5 q6 q7
      obtain ⟨q1, q2, q3, q4, q5, q6, q7⟩ := ver_box HB3
      replace hW := hW.trans (hB3.mono hW.size)
      clear HB2 hB3
      generalize decide (1 ≤ ep ∧ ep ≤ 10000) = p2 at *
      cases p2
      · go_wp2
        go_ret
        exact ⟨by rw [hres.out]; simp_all, hW⟩
      · go_wp2_with fail
        refine (in_c _ _ _ _).mono ?_
        rintro e w4 ⟨rfl, hB4⟩
        have HB4 := HB3.trans (hB4.mono HB3.size)
        clear q1 q2 q3 q4 q5 q6 q7
        obtain ⟨q1, q2, q3, q4, q5, q6, q7⟩ := ver_box HB4
        replace hW := hW.trans (hB4.mono hW.size)
        clear HB3 hB4
        generalize decide (1 ≤ sq ∧ sq ≤ 100000) = p3 at *
        cases p3
        · go_wp2
          go_ret
          exact ⟨by rw [hres.out]; simp_all, hW⟩
        · go_wp2_with fail
          refine (smay_c _ _ _).mono ?_
          rintro e w5 ⟨rfl, hB5⟩
          have HB5 := HB4.trans (hB5.mono HB4.size)
          clear q1 q2 q3 q4 q5 q6 q7
          obtain ⟨q1, q2, q3, q4, q5, q6, q7⟩ := ver_box HB5
          replace hW := hW.trans (hB5.mono hW.size)
          clear HB4 hB5
          generalize spanOk fr too = p4 at *
          cases p4
          · go_wp2
            go_ret
            exact ⟨by rw [hres.out]; simp_all, hW⟩
          · by_cases h200 : val.size ≤ 200
            · cases gone
              · go_wp2
                go_ret
                exact ⟨by rw [hres.out]; simp_all, hW⟩
              · cases hv : val.toList.isEmpty
                · go_wp2
                  go_ret
                  exact ⟨by rw [hres.out]; simp_all, hW⟩
                · go_wp2
                  go_ret
                  exact ⟨by rw [hres.out]; simp_all, hW⟩
            · have hd : decide (val.size ≤ 200) = false := by simp; omega
              rw [hd] at hres
              go_wp2
              go_ret
              exact ⟨by rw [hres.out]; simp, hW⟩
  · have hE : (er == 0) = false := by simpa using her
    cases p1
    · go_wp2
      go_ret
      exact ⟨by rw [hres.out]; simp_all, hW⟩
    · go_wp2_with fail
      refine (in_c _ _ _ _).mono ?_
      rintro e w3 ⟨rfl, hB3⟩
      have HB3 := HB2.trans (hB3.mono HB2.size)
      clear q1 q2 q3 q4 q5 q6 q7
      obtain ⟨q1, q2, q3, q4, q5, q6, q7⟩ := ver_box HB3
      replace hW := hW.trans (hB3.mono hW.size)
      clear HB2 hB3
      generalize decide (1 ≤ ep ∧ ep ≤ 10000) = p2 at *
      cases p2
      · go_wp2
        go_ret
        exact ⟨by rw [hres.out]; simp_all, hW⟩
      · go_wp2_with fail
        refine (in_c _ _ _ _).mono ?_
        rintro e w4 ⟨rfl, hB4⟩
        have HB4 := HB3.trans (hB4.mono HB3.size)
        clear q1 q2 q3 q4 q5 q6 q7
        obtain ⟨q1, q2, q3, q4, q5, q6, q7⟩ := ver_box HB4
        replace hW := hW.trans (hB4.mono hW.size)
        clear HB3 hB4
        generalize decide (1 ≤ sq ∧ sq ≤ 100000) = p3 at *
        cases p3
        · go_wp2
          go_ret
          exact ⟨by rw [hres.out]; simp_all, hW⟩
        · go_wp2
          go_ret
          exact ⟨by rw [hres.out]; simp_all, hW⟩
end Go.Proofs.Ytkmmaijkidkoiaa
